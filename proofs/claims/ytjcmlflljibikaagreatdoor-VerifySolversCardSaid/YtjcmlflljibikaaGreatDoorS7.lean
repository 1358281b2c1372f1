/- Own texts, merged. -/
import Derived.Test.YtjcmlflljibikaaGreatDoorS6
set_option linter.unusedVariables false
set_option linter.unusedSimpArgs false
open Nat (reduceAdd reduceSub reduceMul reduceEqDiff reduceLeDiff reduceLT)
namespace Go.Proofs.YtjcmlflljibikaaGreatDoor.Cal
open Go Pl
def bkI (x:List (List Int)) (t:Nat):Nat→List Int
 |0=>[]
 |i+1=>bkI x t i++List.replicate ((x.getD i []).count (t:Int)) (i:Int)
def bkJ (x:List (List Int)) (t i j:Nat):List Int:=bkI x t i++List.replicate (((x.getD i []).take j).count (t:Int)) (i:Int)
def Zbf (x:List (List Int)):List (List Int):=(List.range x.length).map fun t=>bkI x t x.length
theorem Zjz {x:List (List Int)} {t:Nat} (h:∀ v,v < x.length→(x.getD v []).length≤64):∀ i,i≤x.length→(bkI x t i).length≤64 * i
 |0,_=>by simp [bkI]
 |i+1,hi=>by
  have h1:=Zjz (t:=t) h i (by omega)
  have h2:(x.getD i []).count (t:Int)≤(x.getD i []).length:=List.count_le_length
  have h3:=h i (by omega)
  simp only [bkI,List.length_append,List.length_replicate]
  omega
theorem bkJ_zero {x:List (List Int)} {t i:Nat}:bkJ x t i 0=bkI x t i:=by simp [bkJ]
theorem bkJ_all {x:List (List Int)} {t i:Nat}:bkJ x t i (x.getD i []).length=bkI x t (i+1):=by
 unfold bkJ;rw [List.take_length];rfl
theorem bkJ_succ {x:List (List Int)} {t i j:Nat} (h:j < (x.getD i []).length):bkJ x t i (j+1)=if (x.getD i []).getD j 0=(t:Int) then bkJ x t i j++[(i:Int)] else bkJ x t i j:=by
 unfold bkJ
 rw [Zff (d:=0) h,List.count_append]
 by_cases he:(x.getD i []).getD j 0=(t:Int)
 ·rw [if_pos he,he,List.count_singleton_self,List.replicate_succ',List.append_assoc]
 ·rw [if_neg he,List.count_singleton]
  have:((x.getD i []).getD j 0 == (t:Int))=false:=by simpa using he
  rw [this];simp
theorem Zmr {β:Type} {f f':Nat→β} {n t:Nat} {y:β} (h1:t < n→f' t=y) (h2:∀ s,s≠t→f' s=f s):((List.range n).map f).set t y=(List.range n).map f':=by
 refine List.ext_getElem (by simp) fun j a b=>?_
 simp only [List.length_set,List.length_map,List.length_range] at a
 rw [List.getElem_set]
 split
 ·rename_i e;subst e;simp [h1 a]
 ·rename_i e;simp [h2 j (Ne.symm e)]
def sc (x:List (List Int)) (u:Nat):List Nat:=(x.getD u []).map Int.toNat
def pe (q:List Nat) (i:Nat) (dn:List Nat) (u t:Nat):Prop:=t∈q.take i∨(q[i]? = some t∧u∈dn)
open Classical in
noncomputable def peB (q:List Nat) (i:Nat) (dn:List Nat) (u t:Nat):Bool:=decide (pe q i dn u t)
theorem getD_setI {xs:List Int} {i j:Nat} {v:Int} (hi:i < xs.length):(xs.set i v).getD j 0=if j=i then v else xs.getD j 0:=Zb5 hi
theorem cnt_drop {P P':Nat→Bool} {v:Nat} (h:∀ t,P' t=(P t || t == v)) (hP:P v=false):∀ {l:List Nat},l.Nodup→v∈l→((l.filter fun t => !(P' t)).length:Int)=(l.filter fun t => !(P t)).length - 1
 |[],_,hv=>absurd hv List.not_mem_nil
 |a :: t,hn,hv=>by
  rw [List.nodup_cons] at hn
  by_cases ha:a=v
  ·subst ha
   have ht:∀ x,x∈t→(!(P' x)) = !(P x):=fun x hx=>by
    have:x≠a:=fun e=>hn.1 (e▸hx)
    rw [h x];simp [this]
   rw [List.filter_cons,List.filter_cons,hP,h a]
   simp only [beq_self_eq_true,Bool.or_true,Bool.not_true,Bool.false_eq_true,if_false,Bool.not_false,if_true,List.length_cons,List.filter_congr ht]
   omega
  ·have hv':v∈t:=(List.mem_cons.1 hv).resolve_left (fun e=>ha e.symm)
   have ih:=cnt_drop h hP hn.2 hv'
   have hPa:P' a=P a:=by rw [h a];simp [ha]
   rw [List.filter_cons,List.filter_cons,hPa]
   cases hb:P a with
   |true=>simpa [hb] using ih
   |false=>simp only [Bool.not_false,if_true,List.length_cons];omega
theorem pe_iff {q:List Nat} {i:Nat} {dn:List Nat} {u t:Nat}:peB q i dn u t=true↔pe q i dn u t:=by
 classical
 unfold peB;exact decide_eq_true_iff
theorem peB_false {q:List Nat} {i:Nat} {dn:List Nat} {u t:Nat} (h:¬ pe q i dn u t):peB q i dn u t=false:=by
 cases hb:peB q i dn u t with
 |false=>rfl
 |true=>exact absurd (pe_iff.1 hb) h
theorem peB_congr {q q':List Nat} {i i':Nat} {dn dn':List Nat} {u t:Nat} (h:pe q i dn u t↔pe q' i' dn' u t):peB q i dn u t=peB q' i' dn' u t:=by
 rw [Bool.eq_iff_iff,pe_iff,pe_iff];exact h
theorem Zl0 {q q':List Nat} {i v u:Nat} {dn:List Nat} (h1:q'.take i=q.take i) (h2:q'[i]? = some v) (h3:q[i]? = some v) (u' t:Nat):pe q' i (dn++[u]) u' t↔pe q i dn u' t∨(u'=u∧t=v):=by
 unfold pe
 rw [h1,h2,h3]
 simp only [Option.some.injEq,List.mem_append,List.mem_singleton]
 constructor
 ·rintro (h|⟨h,h4|h4⟩)
  ·exact .inl (.inl h)
  ·exact .inl (.inr ⟨h,h4⟩)
  ·exact .inr ⟨h4,h.symm⟩
 ·rintro ((h|⟨h,h4⟩)|⟨h4,h⟩)
  ·exact .inl h
  ·exact .inr ⟨h,.inl h4⟩
  ·exact .inr ⟨h.symm,.inr h4⟩
theorem not_take {q:List Nat} {i v:Nat} (hn:q.Nodup) (h:q[i]? = some v):v ∉ q.take i:=by
 intro hm
 obtain ⟨j,hj,e⟩:=List.getElem_of_mem hm
 rw [List.length_take] at hj
 rw [List.getElem_take] at e
 obtain ⟨hi,e2⟩:=List.getElem?_eq_some_iff.1 h
 exact List.pairwise_iff_getElem.1 hn j i (by omega) hi (by omega) (e.trans e2.symm)
theorem row_up {n:Nat}:∀ {l:List Int},(∀ i,i < l.length→Zow n l i)→l.Pairwise (· < ·)
 |[],_=>List.Pairwise.nil
 |[a],_=>List.pairwise_singleton _ _
 |a :: b :: t,h=>by
  have h1:(b :: t).Pairwise (· < ·):=row_up (l:=b :: t) fun i hi=>by
   have:=h (i+1) (by simpa using hi)
   obtain ⟨r1,r2,r3⟩:=this
   refine ⟨r1,r2,fun h0=>?_⟩
   obtain ⟨j,rfl⟩:∃ j,i=j+1:=⟨i - 1,by omega⟩
   exact r3 (Nat.succ_pos _)
  have hab:a < b:=(h 1 (by simp)).2.2 (Nat.succ_pos _)
  refine List.pairwise_cons.2 ⟨fun c hc=>?_,h1⟩
  rcases List.mem_cons.1 hc with rfl|hc
  ·exact hab
  ·have:=(List.pairwise_cons.1 h1).1 c hc
   omega
theorem Zka {g:Gm} (hV:Zc1 g) {u:Nat} (hu:u < g.own.length):(g.nxt.getD u []).Pairwise (· < ·)∧∀ a,a∈g.nxt.getD u []→0≤a∧a < g.own.length:=by
 obtain ⟨_,hr⟩:=hV.2.2.2 u hu
 refine ⟨row_up hr,fun a ha=>?_⟩
 obtain ⟨i,hi,rfl⟩:=List.getElem_of_mem ha
 have:=hr i hi
 obtain ⟨r1,r2,_⟩:=this
 simp only [Gm.x,Gm.n] at r1 r2
 rw [List.getD_eq_getElem?_getD,List.getElem?_eq_getElem hi,Option.getD_some] at r1 r2
 exact ⟨r1,r2⟩
theorem sc_mem {g:Gm} (hV:Zc1 g) {u v:Nat} (hu:u < g.own.length):v∈sc g.nxt u↔(v:Int)∈g.nxt.getD u []:=by
 constructor
 ·intro h
  obtain ⟨a,ha,rfl⟩:=List.mem_map.1 h
  have:=(Zka hV hu).2 a ha
  rwa [Int.toNat_of_nonneg this.1]
 ·intro h
  exact List.mem_map.2 ⟨v,h,Int.toNat_natCast v⟩
theorem cnt_one {a:Int}:∀ {l:List Int},l.Pairwise (· < ·)→l.count a≤1
 |[],_=>Nat.zero_le _
 |b :: t,h=>by
  obtain ⟨h1,h2⟩:=List.pairwise_cons.1 h
  rw [List.count_cons]
  by_cases he:b=a
  ·subst he
   have:t.count b=0:=List.count_eq_zero.2 fun hm=>by have:=h1 b hm;omega
   rw [this];simp
  ·have:=cnt_one (a:=a) h2
   have hf:(b == a)=false:=by simpa using he
   rw [hf];simpa using this
theorem Zoa {g:Gm} (hV:Zc1 g) {t:Nat}:∀ i,i≤g.own.length→(bkI g.nxt t i).Pairwise (· < ·)∧(∀ a,a∈bkI g.nxt t i→0≤a∧a < i)∧(∀ v:Nat,(v:Int)∈bkI g.nxt t i↔v < i∧(t:Int)∈g.nxt.getD v [])
 |0,_=>⟨List.Pairwise.nil,fun a h=>absurd h List.not_mem_nil,fun v=>⟨fun h=>absurd h List.not_mem_nil,fun h=>absurd h.1 (Nat.not_lt_zero v)⟩⟩
 |i+1,hi=>by
  obtain ⟨h1,h2,h3⟩:=Zoa hV i (by omega) (t:=t)
  have hrow:=(Zka hV (u:=i) (by omega)).1
  have hc:(g.nxt.getD i []).count (t:Int)≤1:=cnt_one hrow
  have hcm:0 < (g.nxt.getD i []).count (t:Int)↔(t:Int)∈g.nxt.getD i []:=List.count_pos_iff
  simp only [bkI]
  have hrep:∀ a,a∈List.replicate ((g.nxt.getD i []).count (t:Int)) (i:Int)→a=i:=fun a ha=>(List.mem_replicate.1 ha).2
  refine ⟨List.pairwise_append.2 ⟨h1,?_,fun a ha b hb=>?_⟩,fun a ha=>?_,fun v=>?_⟩
  ·rcases Nat.eq_zero_or_pos ((g.nxt.getD i []).count (t:Int)) with h0|h0
   ·rw [h0];exact List.Pairwise.nil
   ·rw [show (g.nxt.getD i []).count (t:Int)=1 by omega];exact List.pairwise_singleton _ _
  ·rw [hrep b hb];exact (h2 a ha).2
  ·rcases List.mem_append.1 ha with ha|ha
   ·have:=h2 a ha;omega
   ·rw [hrep a ha];omega
  ·rw [List.mem_append,h3 v]
   constructor
   ·rintro (⟨h4,h5⟩|h4)
    ·exact ⟨by omega,h5⟩
    ·have e:=hrep _ h4
     obtain rfl:v=i:=by omega
     have:=(List.mem_replicate.1 h4).1
     exact ⟨by omega,hcm.1 (by omega)⟩
   ·rintro ⟨h4,h5⟩
    rcases Nat.lt_succ_iff_lt_or_eq.1 h4 with h6|rfl
    ·exact .inl ⟨h6,h5⟩
    ·exact .inr (List.mem_replicate.2 ⟨by have:=hcm.2 h5;omega,rfl⟩)
theorem Zlm {g:Gm} (hV:Zc1 g) {v:Nat} (hv:v < g.own.length):(Zbf g.nxt).getD v []=bkI g.nxt v g.own.length:=by
 have hx:g.nxt.length=g.own.length:=hV.2.2.1
 have hv2:v < g.nxt.length:=by omega
 unfold Zbf
 rw [List.getD_eq_getElem?_getD,List.getElem?_map,List.getElem?_range hv2,hx];rfl
theorem Zj0 {g:Gm} (hV:Zc1 g) {v:Nat} (hv:v < g.own.length):∀ r,r < ((Zbf g.nxt).getD v []).length→((Zbf g.nxt).getD v []).getD r 0=(((((Zbf g.nxt).getD v []).getD r 0).toNat:Nat):Int)∧(((Zbf g.nxt).getD v []).getD r 0).toNat < g.own.length∧v∈sc g.nxt (((Zbf g.nxt).getD v []).getD r 0).toNat∧(((Zbf g.nxt).getD v []).getD r 0).toNat ∉ (((Zbf g.nxt).getD v []).take r).map Int.toNat:=by
 rw [Zlm hV hv]
 obtain ⟨h1,h2,h3⟩:=Zoa hV g.own.length (Nat.le_refl _) (t:=v)
 intro r hr
 have hm:(bkI g.nxt v g.own.length).getD r 0∈bkI g.nxt v g.own.length:=by
  rw [List.getD_eq_getElem?_getD,List.getElem?_eq_getElem hr];exact List.getElem_mem hr
 obtain ⟨a1,a2⟩:=h2 _ hm
 have e:(((bkI g.nxt v g.own.length).getD r 0).toNat:Int)=(bkI g.nxt v g.own.length).getD r 0:=Int.toNat_of_nonneg a1
 have hn:((bkI g.nxt v g.own.length).getD r 0).toNat < g.own.length:=by omega
 refine ⟨e.symm,hn,?_,fun hm2=>?_⟩
 ·rw [sc_mem hV hn]
  exact ((h3 _).1 (by rw [e];exact hm)).2
 ·obtain ⟨b,hb,e2⟩:=List.mem_map.1 hm2
  obtain ⟨j,hj,rfl⟩:=List.getElem_of_mem hb
  rw [List.length_take] at hj
  rw [List.getElem_take] at e2
  have hlt:=List.pairwise_iff_getElem.1 h1 j r (by omega) hr (by omega)
  have hb0:=h2 _ (List.getElem_mem (l:=bkI g.nxt v g.own.length) (n:=j) (by omega))
  rw [List.getD_eq_getElem?_getD,List.getElem?_eq_getElem hr,Option.getD_some] at e2 a1
  omega
theorem Zln {g:Gm} (hV:Zc1 g) {v:Nat} (hv:v < g.own.length):∀ u,u < g.own.length→v∈sc g.nxt u→u∈((Zbf g.nxt).getD v []).map Int.toNat:=by
 rw [Zlm hV hv]
 obtain ⟨h1,h2,h3⟩:=Zoa hV g.own.length (Nat.le_refl _) (t:=v)
 intro u hu hs
 exact List.mem_map.2 ⟨(u:Int),(h3 u).2 ⟨hu,(sc_mem hV hu).1 hs⟩,Int.toNat_natCast u⟩
theorem sc_nodup {g:Gm} (hV:Zc1 g) {u:Nat} (hu:u < g.own.length):(sc g.nxt u).Nodup:=by
 obtain ⟨h1,h2⟩:=Zka hV hu
 unfold sc
 rw [List.nodup_iff_pairwise_ne,List.pairwise_map]
 refine List.Pairwise.imp_of_mem (fun {a b} ha hb hab=>?_) h1
 have:=h2 a ha
 have:=h2 b hb
 omega
def rws (x:List (List Int)) (v:Nat):List Nat:=(x.getD v []).map Int.toNat
theorem Zfx {x:List (List Int)} {v:Nat}:(rws x v).length=(x.getD v []).length:=List.length_map ..
theorem Zix {x:List (List Int)} {v j:Nat}:(rws x v).getD j 0=((x.getD v []).getD j 0).toNat:=by
 simp only [rws,List.getD_eq_getElem?_getD,List.getElem?_map]
 cases (x[v]?.getD [])[j]?<;>rfl
section
def up (f:Nat→Int) (v:Nat) (a:Int):Nat→Int:=fun w=>if w=v then a else f w
inductive Rch (E:Nat→Nat→Prop):Nat→Nat→Prop
 |refl (a:Nat):Rch E a a
 |step {a b c:Nat}:Rch E a b→E b c→Rch E a c
theorem Rch.trans {E:Nat→Nat→Prop} {a b c:Nat} (h:Rch E a b) (h2:Rch E b c):Rch E a c:=by
 induction h2 with
 |refl=>exact h
 |step _ e ih=>exact .step ih e
theorem Rch.one {E:Nat→Nat→Prop} {a b:Nat} (h:E a b):Rch E a b:=.step (.refl a) h
theorem Rch.closed {E:Nat→Nat→Prop} {C:Nat→Prop} (hC:∀ a b,C a→E a b→C b) {a b:Nat} (h:Rch E a b) (ha:C a):C b:=by
 induction h with
 |refl=>exact ha
 |step _ e ih=>exact hC _ _ ih e
theorem Rch.mono {E E':Nat→Nat→Prop} (hE:∀ a b,E a b→E' a b) {a b:Nat} (h:Rch E a b):Rch E' a b:=by
 induction h with
 |refl=>exact .refl _
 |step _ e ih=>exact .step ih (hE _ _ e)
def Ed (row:Nat→List Nat) (ok:Nat→Prop) (v t:Nat):Prop:=t∈row v∧ok t
structure TJ (n:Nat) (row:Nat→List Nat) (ok:Nat→Prop) (num low nx of:Nat→Int) (path stack:List Nat) (cnt many:Int):Prop where
 n0:∀ v,v < n→0≤num v∧num v≤cnt
 inj:∀ v w,v < n→w < n→0 < num v→num v=num w→v=w
 mok:∀ v,v < n→0 < num v→ok v
 stk:∀ v,v∈stack↔v < n∧0 < num v∧of v < 0
 srt:stack.Pairwise fun a b=>num a < num b
 psub:path.Sublist stack
 nx0:∀ v,v < n→0≤nx v∧nx v≤(row v).length
 fin:∀ v,v < n→0 < num v→v ∉ path→nx v=(row v).length
 met:∀ v,v < n→0 < num v→∀ j:Nat,(j:Int) < nx v→ok ((row v).getD j 0)→0 < num ((row v).getD j 0)
 nun:∀ v,v < n→num v=0→nx v=0
 cls:∀ v,v < n→0≤of v→∀ t,Ed row ok v t→0≤of t
 ofr:∀ v,v < n→of v < many∧(0≤of v→0 < num v)
 ofn:∀ v,v < n → -1≤of v
 scc:∀ v w,v < n→w < n→0≤of v→0≤of w→(of v=of w↔Rch (Ed row ok) v w∧Rch (Ed row ok) w v)
 i8:∀ v,v∈path→∀ w,w∈stack→num v≤num w→Rch (Ed row ok) v w
 lw:∀ w,w∈stack→∃ u,u∈stack∧low w=num u∧Rch (Ed row ok) w u
 ll:∀ w,w∈stack→low w≤num w
 i10a:∀ w,w∈stack→w ∉ path→low w < num w
 i10b:∀ p,p∈path→∀ w,w∈stack→num p≤num w→(∀ p',p'∈path→num p'≤num w→num p'≤num p)→low p≤low w
 i11:∀ w,w∈stack→∀ j:Nat,(j:Int) < nx w→ok ((row w).getD j 0)→(row w).getD j 0∈stack→low w≤num ((row w).getD j 0)
 i12:∀ w,w∈stack→∃ p,p∈path∧num p≤num w
 m0:0≤many
 mc:many+stack.length≤cnt
/-! Sums -/
def sm (f:Nat→Int):Nat→Int
 |0=>0
 |n+1=>sm f n+f n
end
section
open Go Pl
def okP (p:List Int) (top:Int) (v:Nat):Prop:=p.getD v 0≤top
structure TS where
 num:List Int
 low:List Int
 nx:List Int
 of:List Int
 path:List Nat
 stack:List Nat
 cnt:Int
 many:Int
 i:Nat
def unm (num:List Int) (v:Nat):Int:=if num.getD v 0=0 then 1 else 0
structure TV (n:Nat) (p:List Int) (x:List (List Int)) (top:Int) (s:TS):Prop where
 ln:s.num.length=n
 ll:s.low.length=n
 lx:s.nx.length=n
 lo:s.of.length=n
 tj:TJ n (rws x) (okP p top) (fun v=>s.num.getD v 0) (fun v=>s.low.getD v 0) (fun v=>s.nx.getD v 0) (fun v=>s.of.getD v 0) s.path s.stack s.cnt s.many
 cn:s.cnt+sm (unm s.num) n=n
 im:s.i≤n
 dn:∀ v,v < s.i→okP p top v→0 < s.num.getD v 0
def lf (n:Nat) (x:List (List Int)) (s:TS):Nat:=(2 * sm (fun v=>((x.getD v []).length:Int) - s.nx.getD v 0) n+s.path.length).toNat
section
variable {n:Nat} {p:List Int} {x:List (List Int)} {top:Int} {s:TS}
theorem TV.next (H:TV n p x top s) (hi:s.i < n) (hd:okP p top s.i→0 < s.num.getD s.i 0):TV n p x top { s with i:=s.i+1 } :=
 { H with
  im:=hi
  dn:=fun v hv ho=>(Nat.lt_succ_iff_lt_or_eq.1 hv).elim (fun h=>H.dn v h ho) (fun h=>by subst h;exact hd ho) }
end
end
section
open Go Pl
def Rch1 (g:Gm) (top:Int) (v w:Nat):Prop:=∃ t,Ed (rws g.nxt) (okP g.pri top) v t∧Rch (Ed (rws g.nxt) (okP g.pri top)) t w
end
section
open Go Pl
def RchA (x:List (List Int)):Nat→Nat→Prop:=Rch fun a b=>b∈rws x a
theorem RchA.cons {x:List (List Int)} {a b c:Nat} (h:b∈rws x a) (h2:RchA x b c):RchA x a c:=Rch.trans (Rch.one h) h2
def again (g:Gm) (pl:Int) (v:Nat):Prop:=g.pri.getD v 0 % 2=pl∧Rch1 g (g.pri.getD v 0) v v
def Zo6 (g:Gm) (pl:Int) (v:Nat):Prop:=∃ w,w < g.own.length∧again g pl w∧RchA g.nxt v w
open Classical in
noncomputable def Zj4 (g:Gm) (pl:Int):List Bool:=(List.range g.own.length).map fun v=>decide (Zo6 g pl v)
theorem aloneL_getD {g:Gm} {pl:Int} {v:Nat} (hv:v < g.own.length):(Zj4 g pl).getD v false=true↔Zo6 g pl v:=by
 simp [Zj4,List.getD_eq_getElem?_getD,hv]
end
section
open Pl
def Low (E:Nat→Nat→Prop) (pri:Nat→Int) (w a b:Nat):Prop:=E a b∧pri b≤pri w
def Cyc (E:Nat→Nat→Prop) (pri:Nat→Int) (w:Nat):Prop:=∃ t,Low E pri w w t∧Rch (Low E pri w) t w
theorem Rch.cons {E:Nat→Nat→Prop} {a b c:Nat} (h:E a b) (h2:Rch E b c):Rch E a c:=Rch.trans (Rch.one h) h2
theorem Rch.uncons {E:Nat→Nat→Prop} {a b:Nat} (h:Rch E a b):a=b∨∃ t,E a t∧Rch E t b:=by
 induction h with
 |refl=>exact .inl rfl
 |step h e ih =>
  rcases ih with rfl|⟨t,h1,h2⟩
  ·exact .inr ⟨_,e,.refl _⟩
  ·exact .inr ⟨t,h1,.step h2 e⟩
def OnC (E:Nat→Nat→Prop) (pri:Nat→Int) (w t z:Nat):Prop:=Rch (Low E pri w) t z∧Rch (Low E pri w) z w
theorem Zjo {E:Nat→Nat→Prop} {pri:Nat→Int} {w t z:Nat} (ht:Low E pri w w t) (htw:Rch (Low E pri w) t w) (h:OnC E pri w t z):∃ s,E z s∧OnC E pri w t s:=by
 rcases h.2.uncons with rfl|⟨s,h1,h2⟩
 ·exact ⟨t,ht.1,.refl _,htw⟩
 ·exact ⟨s,h1.1,.step h.1 h1,h2⟩
theorem on_low {E:Nat→Nat→Prop} {pri:Nat→Int} {w t z:Nat} (ht:Low E pri w w t) (h:OnC E pri w t z):pri z≤pri w:=by
 cases h.1 with
 |refl=>exact ht.2
 |step _ e=>exact e.2
theorem on_rank {E:Nat→Nat→Prop} {pri:Nat→Int} {w t:Nat} (ht:Low E pri w w t) (htw:Rch (Low E pri w) t w) {A:Nat→Prop} {r:Nat→Nat} (hA:∀ z s,OnC E pri w t z→A z→E z s→A s∧r s < r z):∀ z,OnC E pri w t z→¬ A z:=by
 intro z
 generalize hk:r z=k
 induction k using Nat.strongRecOn generalizing z with
 |ind k ih =>
  intro hz ha
  obtain ⟨s,h1,h2⟩:=Zjo ht htw hz
  obtain ⟨h3,h4⟩:=hA z s hz ha h1
  exact ih (r s) (by omega) s rfl h2 h3
theorem Zex {E E':Nat→Nat→Prop} {pri:Nat→Int} {w t:Nat} (ht:Low E pri w w t) (htw:Rch (Low E pri w) t w) (h:∀ a b,OnC E pri w t a→OnC E pri w t b→E a b→E' a b):Cyc E' pri w:=by
 have hw:OnC E pri w t w:=⟨htw,.refl _⟩
 refine ⟨t,⟨h w t hw ⟨.refl _,htw⟩ ht.1,ht.2⟩,?_⟩
 have key:∀ c,Rch (Low E pri w) t c→Rch (Low E pri w) c w→Rch (Low E' pri w) t c:=by
  intro c hc
  induction hc with
  |refl=>intro _;exact .refl _
  |step h1 e ih =>
   intro h2
   have h3:=Rch.cons e h2
   exact .step (ih h3) ⟨h _ _ ⟨h1,h3⟩ ⟨.step h1 e,h2⟩ e.1,e.2⟩
 exact key w htw (.refl _)
variable (own pri:Nat→Int) (sx:Nat→List Nat)
def Stp (K:Nat→Prop) (W:Nat→Int) (c:Nat→Nat) (p:Int) (v t:Nat):Prop:=(K v∧W v=p)∧K t∧(own v=p→t=c v)∧(own v≠p→t∈sx v)
structure Sol (K:Nat→Prop) (W:Nat→Int) (c:Nat→Nat) (p:Int):Prop where
 mine:∀ v,K v→W v=p→own v=p→c v∈sx v∧K (c v)∧W (c v)=p
 his:∀ v,K v→W v=p→own v≠p→∀ t,t∈sx v→K t→W t=p
 cyc:∀ w,K w→W w=p→pri w % 2≠p→¬ Cyc (Stp own sx K W c p) pri w
def Trap (K:Nat→Prop):Prop:=∀ v,K v→∃ t,t∈sx v∧K t
structure Atr (K A T:Nat→Prop) (q:Int) (c:Nat→Nat) (r:Nat→Nat):Prop where
 sub:∀ v,A v→K v
 base:∀ v,T v→A v
 mine:∀ v,A v→¬ T v→own v=q→c v∈sx v∧A (c v)∧r (c v) < r v
 his:∀ v,A v→¬ T v→own v≠q→∀ t,t∈sx v→K t→A t∧r t < r v
 outm:∀ v,K v→¬ A v→own v=q→∀ t,t∈sx v→K t→¬ A t
 outh:∀ v,K v→¬ A v→own v≠q→∃ t,t∈sx v∧K t∧¬ A t
variable {own pri sx}
variable {K A T R:Nat→Prop} {W W':Nat→Int} {c c':Nat→Nat} {r:Nat→Nat} {p q:Int}
theorem Atr.trap (h:Atr own sx K A T q c r) (hK:Trap sx K):Trap sx fun v=>K v∧¬ A v:=fun v hv=>by
 by_cases ho:own v=q
 ·obtain ⟨t,h1,h2⟩:=hK v hv.1
  exact ⟨t,h1,h2,h.outm v hv.1 hv.2 ho t h1 h2⟩
 ·obtain ⟨t,h1,h2,h3⟩:=h.outh v hv.1 hv.2 ho
  exact ⟨t,h1,h2,h3⟩
theorem sol_all {top:Int} (hp:top % 2=p) (htop:∀ v,K v→pri v≤top) (hT:∀ v,T v↔K v∧pri v=top) (hA:Atr own sx K A T p c r)
  (hU:∀ v,T v→own v=p→c v∈sx v∧K (c v)) (hS:Sol own pri sx (fun v=>K v∧¬ A v) W' c p) (hW':∀ v,K v→¬ A v→W' v=p) (hW:∀ v,K v→W v=p) :
  Sol own pri sx K W c p∧∀ q,q≠p→Sol own pri sx K W c q:=by
 refine ⟨⟨fun v hv _ ho=>?_,fun v hv _ ho t ht hk=>hW t hk,fun w hw _ hpar=>?_⟩,fun q hq=>⟨fun v hv h=>absurd ((hW v hv).symm.trans h).symm hq,fun v hv h=>absurd ((hW v hv).symm.trans h).symm hq,fun v hv h=>absurd ((hW v hv).symm.trans h).symm hq⟩⟩
 ·by_cases hat:A v
  ·by_cases htt:T v
   ·obtain ⟨h1,h2⟩:=hU v htt ho
    exact ⟨h1,h2,hW _ h2⟩
   ·obtain ⟨h1,h2,_⟩:=hA.mine v hat htt ho
    exact ⟨h1,hA.sub _ h2,hW _ (hA.sub _ h2)⟩
  ·obtain ⟨h1,h2,h3⟩:=hS.mine v ⟨hv,hat⟩ (hW' v hv hat) ho
   exact ⟨h1,h2.1,hW _ h2.1⟩
 ·rintro ⟨t,ht,htw⟩
  have hwt:¬ T w:=fun h=>hpar (by rw [((hT w).1 h).2];exact hp)
  have hlt:pri w < top:=by
   have h1:=htop w hw
   rcases Int.lt_or_eq_of_le h1 with h2|h2
   ·exact h2
   ·exact absurd ((hT w).2 ⟨hw,h2⟩) hwt
  have hnt:∀ z,OnC (Stp own sx K W c p) pri w t z→¬ T z:=fun z hz h=>by
   have h1:=on_low ht hz
   have h2:=((hT z).1 h).2
   omega
  have hna:=on_rank ht htw (A:=A) (r:=r) fun z s hz ha e=>by
   obtain ⟨⟨e1,e2⟩,e3,e4,e5⟩:=e
   by_cases ho:own z=p
   ·rw [e4 ho];exact (hA.mine z ha (hnt z hz) ho).2
   ·exact hA.his z ha (hnt z hz) ho s (e5 ho) e3
  have hKz:∀ z,OnC (Stp own sx K W c p) pri w t z→K z:=fun z hz=>by
   obtain ⟨s,h1,_⟩:=Zjo ht htw hz
   exact h1.1.1
  have hww:OnC (Stp own sx K W c p) pri w t w:=⟨htw,.refl _⟩
  refine hS.cyc w ⟨hw,hna w hww⟩ (hW' w hw (hna w hww)) hpar (Zex ht htw fun a b h1 h2 e=>?_)
  obtain ⟨⟨e1,e2⟩,e3,e4,e5⟩:=e
  exact ⟨⟨⟨e1,hna a h1⟩,hW' a e1 (hna a h1)⟩,⟨e3,hna b h2⟩,e4,e5⟩
theorem Sol.congr {c c':Nat→Nat} (h:Sol own pri sx K W c' p) (hc:∀ v,K v→W v=p→own v=p→c v=c' v):Sol own pri sx K W c p:=by
 refine ⟨fun v h1 h2 h3=>by rw [hc v h1 h2 h3];exact h.mine v h1 h2 h3,h.his,fun w h1 h2 h3=>?_⟩
 rintro ⟨t,ht,htw⟩
 refine h.cyc w h1 h2 h3 (Zex ht htw fun a b _ _ e=>?_)
 obtain ⟨⟨e1,e2⟩,e3,e4,e5⟩:=e
 exact ⟨⟨e1,e2⟩,e3,fun ho=>by rw [e4 ho,hc a e1 e2 ho],e5⟩
variable {B:Nat→Prop} {W2:Nat→Int} {cA:Nat→Nat} {rA rB:Nat→Nat}
theorem sol_part (hpq:p≠q) (hown:∀ v,K v→own v=p∨own v=q) (hA:Atr own sx K A T p cA rA) (hS:Sol own pri sx (fun v=>K v∧¬ A v) W' c q)
  (hB:Atr own sx K B (fun v=>(K v∧¬ A v)∧W' v=q) q c rB) (h2p:Sol own pri sx (fun v=>K v∧¬ B v) W2 c p) (h2q:Sol own pri sx (fun v=>K v∧¬ B v) W2 c q)
  (hWB:∀ v,B v→W v=q) (hW2:∀ v,K v→¬ B v→W v=W2 v):Sol own pri sx K W c p∧Sol own pri sx K W c q:=by
 have hnb:∀ v,K v→W v=p→¬ B v:=fun v hv h hb=>hpq (h.symm.trans (hWB v hb))
 refine ⟨⟨fun v hv h ho=>?_,fun v hv h ho t ht hk=>?_,fun w hw h hpar=>?_⟩,⟨fun v hv h ho=>?_,fun v hv h ho t ht hk=>?_,fun w hw h hpar=>?_⟩⟩
 ·have hb:=hnb v hv h
  obtain ⟨h1,h2,h3⟩:=h2p.mine v ⟨hv,hb⟩ ((hW2 v hv hb).symm.trans h) ho
  exact ⟨h1,h2.1,(hW2 _ h2.1 h2.2).trans h3⟩
 ·have hb:=hnb v hv h
  have hoq:own v=q:=(hown v hv).resolve_left ho
  have hbt:=hB.outm v hv hb hoq t ht hk
  exact (hW2 t hk hbt).trans (h2p.his v ⟨hv,hb⟩ ((hW2 v hv hb).symm.trans h) ho t ht ⟨hk,hbt⟩)
 ·rintro ⟨t,ht,htw⟩
  have hb:=hnb w hw h
  refine h2p.cyc w ⟨hw,hb⟩ ((hW2 w hw hb).symm.trans h) hpar (Zex ht htw fun a b h1 h2 e=>?_)
  obtain ⟨⟨e1,e2⟩,e3,e4,e5⟩:=e
  have hba:=hnb a e1 e2
  have hbb:¬ B b:=by
   obtain ⟨s,hs,_⟩:=Zjo ht htw h2
   exact hnb b hs.1.1 hs.1.2
  exact ⟨⟨⟨e1,hba⟩,(hW2 a e1 hba).symm.trans e2⟩,⟨e3,hbb⟩,e4,e5⟩
 ·by_cases hb:B v
  ·by_cases hl:(K v∧¬ A v)∧W' v=q
   ·obtain ⟨h1,h2,h3⟩:=hS.mine v hl.1 hl.2 ho
    exact ⟨h1,h2.1,hWB _ (hB.base _ ⟨h2,h3⟩)⟩
   ·obtain ⟨h1,h2,_⟩:=hB.mine v hb hl ho
    exact ⟨h1,hB.sub _ h2,hWB _ h2⟩
  ·obtain ⟨h1,h2,h3⟩:=h2q.mine v ⟨hv,hb⟩ ((hW2 v hv hb).symm.trans h) ho
   exact ⟨h1,h2.1,(hW2 _ h2.1 h2.2).trans h3⟩
 ·have hop:own v=p:=(hown v hv).resolve_right ho
  by_cases hb:B v
  ·by_cases hl:(K v∧¬ A v)∧W' v=q
   ·have hat:=hA.outm v hv hl.1.2 hop t ht hk
    exact hWB _ (hB.base _ ⟨⟨hk,hat⟩,hS.his v hl.1 hl.2 ho t ht ⟨hk,hat⟩⟩)
   ·exact hWB _ (hB.his v hb hl ho t ht hk).1
  ·by_cases hbt:B t
   ·exact hWB _ hbt
   ·exact (hW2 t hk hbt).trans (h2q.his v ⟨hv,hb⟩ ((hW2 v hv hb).symm.trans h) ho t ht ⟨hk,hbt⟩)
 ·rintro ⟨t,ht,htw⟩
  have hww:OnC (Stp own sx K W c q) pri w t w:=⟨htw,.refl _⟩
  have hcl:∀ a b,((K a∧¬ A a)∧W' a=q)→Stp own sx K W c q a b→((K b∧¬ A b)∧W' b=q):=fun a b ha e=>by
   obtain ⟨⟨e1,e2⟩,e3,e4,e5⟩:=e
   by_cases ho:own a=q
   ·rw [e4 ho]
    obtain ⟨h1,h2,h3⟩:=hS.mine a ha.1 ha.2 ho
    exact ⟨h2,h3⟩
   ·have hop:own a=p:=(hown a e1).resolve_right ho
    have hat:=hA.outm a e1 ha.1.2 hop b (e5 ho) e3
    exact ⟨⟨e3,hat⟩,hS.his a ha.1 ha.2 ho b (e5 ho) ⟨e3,hat⟩⟩
  by_cases hex:∃ z,OnC (Stp own sx K W c q) pri w t z∧((K z∧¬ A z)∧W' z=q)
  ·obtain ⟨z,hz,hl⟩:=hex
   have hlw:=Rch.closed (C:=fun v=>(K v∧¬ A v)∧W' v=q) (fun a b h1 h2=>hcl a b h1 h2.1) hz.2 hl
   have hla:∀ a,OnC (Stp own sx K W c q) pri w t a→(K a∧¬ A a)∧W' a=q:=fun a ha =>
    Rch.closed (C:=fun v=>(K v∧¬ A v)∧W' v=q) (fun a b h1 h2=>hcl a b h1 h2.1) (Rch.cons ht ha.1) hlw
   refine hS.cyc w hlw.1 hlw.2 hpar (Zex ht htw fun a b h1 h2 e=>?_)
   obtain ⟨⟨e1,e2⟩,e3,e4,e5⟩:=e
   exact ⟨hla a h1,(hla b h2).1,e4,e5⟩
  ·have hno:∀ z,OnC (Stp own sx K W c q) pri w t z→¬ ((K z∧¬ A z)∧W' z=q):=fun z hz hl=>hex ⟨z,hz,hl⟩
   have hnB:=on_rank ht htw (A:=B) (r:=rB) fun z s hz ha e=>by
    obtain ⟨⟨e1,e2⟩,e3,e4,e5⟩:=e
    by_cases ho:own z=q
    ·rw [e4 ho];exact (hB.mine z ha (hno z hz) ho).2
    ·exact hB.his z ha (hno z hz) ho s (e5 ho) e3
   have hbw:=hnB w hww
   refine h2q.cyc w ⟨hw,hbw⟩ ((hW2 w hw hbw).symm.trans h) hpar (Zex ht htw fun a b h1 h2 e=>?_)
   obtain ⟨⟨e1,e2⟩,e3,e4,e5⟩:=e
   have hba:=hnB a h1
   exact ⟨⟨⟨e1,hba⟩,(hW2 a e1 hba).symm.trans e2⟩,⟨e3,hnB b h2⟩,e4,e5⟩
/-! ### What is attracted -/
def lay (own:Nat→Int) (sx:Nat→List Nat) (K T:Nat→Prop) (q:Int):Nat→Nat→Prop
 |0,v=>T v
 |k+1,v=>lay own sx K T q k v∨(K v∧own v=q∧∃ t,t∈sx v∧K t∧lay own sx K T q k t)∨(K v∧own v≠q∧∀ t,t∈sx v→K t→lay own sx K T q k t)
def Att (own:Nat→Int) (sx:Nat→List Nat) (K T:Nat→Prop) (q:Int) (v:Nat):Prop:=∃ k,lay own sx K T q k v
theorem lay_le {k j v:Nat} (h:lay own sx K T q k v):lay own sx K T q (k+j) v:=by
 induction j with
 |zero=>exact h
 |succ j ih=>exact .inl ih
theorem lay_all {v:Nat}:∀ {l:List Nat},(∀ t,t∈l→K t→Att own sx K T q t)→∃ k,∀ t,t∈l→K t→lay own sx K T q k t
 |[],_=>⟨0,fun t ht=>absurd ht List.not_mem_nil⟩
 |a :: l,h=>by
  obtain ⟨k,hk⟩:=lay_all (v:=v) (l:=l) fun t ht=>h t (List.mem_cons_of_mem _ ht)
  by_cases ha:K a
  ·obtain ⟨j,hj⟩:=h a List.mem_cons_self ha
   refine ⟨k+j,fun t ht hkt=>?_⟩
   rcases List.mem_cons.1 ht with rfl|ht
   ·rw [Nat.add_comm];exact lay_le hj
   ·exact lay_le (hk t ht hkt)
  ·refine ⟨k,fun t ht hkt=>?_⟩
   rcases List.mem_cons.1 ht with rfl|ht
   ·exact absurd hkt ha
   ·exact hk t ht hkt
theorem least_lay {v:Nat} (h:Att own sx K T q v):∃ k,lay own sx K T q k v∧∀ j,j < k→¬ lay own sx K T q j v:=by
 obtain ⟨k,hk⟩:=h
 induction k using Nat.strongRecOn with
 |ind k ih =>
  by_cases h:∃ j,j < k∧lay own sx K T q j v
  ·obtain ⟨j,h1,h2⟩:=h;exact ih j h1 h2
  ·exact ⟨k,hk,fun j hj hl=>h ⟨j,hj,hl⟩⟩
open Classical in
noncomputable def layR (own:Nat→Int) (sx:Nat→List Nat) (K T:Nat→Prop) (q:Int) (v:Nat):Nat:=if h:Att own sx K T q v then Classical.choose (least_lay h) else 0
theorem layR_is {v:Nat} (h:Att own sx K T q v):lay own sx K T q (layR own sx K T q v) v∧∀ j,j < layR own sx K T q v→¬ lay own sx K T q j v:=by
 unfold layR;rw [dif_pos h];exact Classical.choose_spec (least_lay h)
theorem layR_le {v k:Nat} (h:lay own sx K T q k v):layR own sx K T q v≤k:=Nat.not_lt.1 fun hlt=>(layR_is ⟨k,h⟩).2 k hlt h
theorem lay_sub (hT:∀ v,T v→K v) {k v:Nat} (h:lay own sx K T q k v):K v:=by
 induction k with
 |zero=>exact hT v h
 |succ k ih=>rcases h with h|h|h<;>first|exact ih h|exact h.1
theorem att_atr (hT:∀ v,T v→K v):∃ c r,Atr own sx K (Att own sx K T q) T q c r:=by
 have hst:∀ v,Att own sx K T q v→¬ T v→∃ k,layR own sx K T q v=k+1∧((K v∧own v=q∧∃ t,t∈sx v∧K t∧lay own sx K T q k t)∨(K v∧own v≠q∧∀ t,t∈sx v→K t→lay own sx K T q k t)):=fun v hv ht=>by
  obtain ⟨h1,h2⟩:=layR_is hv
  cases hk:layR own sx K T q v with
  |zero=>rw [hk] at h1;exact absurd h1 ht
  |succ k =>
   rw [hk] at h1 h2
   exact ⟨k,rfl,h1.resolve_left (h2 k (by omega))⟩
 have hc:∀ v,∃ t,Att own sx K T q v→¬ T v→own v=q→t∈sx v∧Att own sx K T q t∧layR own sx K T q t < layR own sx K T q v:=fun v=>by
  by_cases h:Att own sx K T q v∧¬ T v∧own v=q
  ·obtain ⟨k,hk,h2⟩:=hst v h.1 h.2.1
   rcases h2 with ⟨_,_,t,h3,_,h4⟩|h2
   ·refine ⟨t,fun _ _ _=>⟨h3,⟨k,h4⟩,?_⟩⟩
    have:=layR_le h4;omega
   ·exact absurd h.2.2 h2.2.1
  ·exact ⟨0,fun h1 h2 h3=>absurd ⟨h1,h2,h3⟩ h⟩
 refine ⟨fun v=>Classical.choose (hc v),layR own sx K T q,fun v ⟨k,h⟩=>lay_sub hT h,fun v h=>⟨0,h⟩,fun v h1 h2 h3=>Classical.choose_spec (hc v) h1 h2 h3,fun v h1 h2 h3 t ht hk=>?_,fun v hv hna ho t ht hk hat=>?_,fun v hv hna ho=>?_⟩
 ·obtain ⟨k,hk',h4⟩:=hst v h1 h2
  rcases h4 with h4|h4
  ·exact absurd h4.2.1 h3
  ·have h5:=h4.2.2 t ht hk
   have:=layR_le h5
   exact ⟨⟨k,h5⟩,by omega⟩
 ·obtain ⟨k,h⟩:=hat
  exact hna ⟨k+1,.inr (.inl ⟨hv,ho,t,ht,hk,h⟩)⟩
 ·refine Classical.byContradiction fun hno=>?_
  obtain ⟨k,hk⟩:=lay_all (own:=own) (sx:=sx) (K:=K) (T:=T) (q:=q) (v:=v) (l:=sx v) fun t ht hkt=>Classical.byContradiction fun h=>hno ⟨t,ht,hkt,h⟩
  exact hna ⟨k+1,.inr (.inr ⟨hv,ho,hk⟩)⟩
/-! ### The recursion -/
def topR (pri:Nat→Int) (K:Nat→Bool):Nat→Int
 |0 => -1
 |i+1=>if K i=true then max (topR pri K i) (pri i) else topR pri K i
theorem Zma {pri:Nat→Int} {K:Nat→Bool} {v:Nat} (hv:K v=true):∀ {n:Nat},v < n→pri v≤topR pri K n
 |0,h=>absurd h (Nat.not_lt_zero _)
 |n+1,h=>by
  unfold topR
  by_cases e:v=n
  ·subst e;rw [if_pos hv];omega
  ·have:=Zma (pri:=pri) hv (n:=n) (by omega)
   split<;>omega
theorem topR_mem {pri:Nat→Int} {K:Nat→Bool}:∀ {n:Nat},topR pri K n = -1∨∃ v,v < n∧K v=true∧pri v=topR pri K n
 |0=>.inl rfl
 |n+1=>by
  unfold topR
  split
  ·rename_i h
   by_cases h2:topR pri K n≤pri n
   ·exact .inr ⟨n,by omega,h,by omega⟩
   ·rcases topR_mem (pri:=pri) (K:=K) (n:=n) with e|⟨v,h3,h4,h5⟩
    ·exact .inl (by omega)
    ·exact .inr ⟨v,by omega,h4,by omega⟩
  ·rcases topR_mem (pri:=pri) (K:=K) (n:=n) with e|⟨v,h3,h4,h5⟩
   ·exact .inl e
   ·exact .inr ⟨v,by omega,h4,h5⟩
open Classical in
noncomputable def attB (own:Nat→Int) (sx:Nat→List Nat) (K T:Nat→Bool) (q:Int) (v:Nat):Bool:=decide (Att own sx (fun v=>K v=true) (fun v=>T v=true) q v)
theorem attB_iff {K T:Nat→Bool} {v:Nat}:attB own sx K T q v=true↔Att own sx (fun v=>K v=true) (fun v=>T v=true) q v:=by simp [attB]
def topS (pri:Nat→Int) (K:Nat→Bool) (n v:Nat):Bool:=K v && decide (pri v=topR pri K n)
noncomputable def Zd6 (own pri:Nat→Int) (sx:Nat→List Nat) (n:Nat) (K:Nat→Bool) (v:Nat):Bool:=K v && !attB own sx K (topS pri K n) (topR pri K n % 2) v
noncomputable def winZ (own pri:Nat→Int) (sx:Nat→List Nat) (n:Nat):Nat→(Nat→Bool)→Nat→Int
 |0,_,_=>0
 |k+1,K,v =>
  if topR pri K n < 0 then 0
  else if ∀ u,u < n→Zd6 own pri sx n K u=true→winZ own pri sx n k (Zd6 own pri sx n K) u=topR pri K n % 2 then topR pri K n % 2
  else if attB own sx K (fun u=>Zd6 own pri sx n K u && decide (winZ own pri sx n k (Zd6 own pri sx n K) u≠topR pri K n % 2)) (1 - topR pri K n % 2) v=true then 1 - topR pri K n % 2
  else winZ own pri sx n k (fun u=>K u && !attB own sx K (fun u=>Zd6 own pri sx n K u && decide (winZ own pri sx n k (Zd6 own pri sx n K) u≠topR pri K n % 2)) (1 - topR pri K n % 2) u) v
def cntZ (n:Nat) (K:Nat→Bool):Nat:=(List.range n).countP K
theorem Zn9 {n:Nat} {K K':Nat→Bool} {v:Nat} (h:∀ u,K' u=true→K u=true) (hv:v < n) (h1:K v=true) (h2:K' v=false):cntZ n K' < cntZ n K:=by
 unfold cntZ
 have hm:v∈List.range n:=List.mem_range.2 hv
 generalize List.range n=l at hm
 induction l with
 |nil=>exact absurd hm List.not_mem_nil
 |cons a l ih =>
  have hle:l.countP K'≤l.countP K:=List.countP_mono_left fun x _ hx=>h x hx
  rw [List.countP_cons,List.countP_cons]
  rcases List.mem_cons.1 hm with rfl|hm
  ·rw [h1,h2];simp;omega
  ·have:=ih hm
   have h3:K' a=true→K a=true:=h a
   cases e:K' a with
   |true=>rw [h3 e];simp;omega
   |false=>cases K a<;>simp<;>omega
theorem cnt_pos {n:Nat} {K:Nat→Bool} {v:Nat} (hv:v < n) (h1:K v=true):0 < cntZ n K:=List.countP_pos_iff.2 ⟨v,List.mem_range.2 hv,h1⟩
theorem Atr.congr (h:Atr own sx K A T q c' r) (hc:∀ v,A v→¬ T v→own v=q→c v=c' v):Atr own sx K A T q c r :=
 ⟨h.sub,h.base,fun v h1 h2 h3=>by rw [hc v h1 h2 h3];exact h.mine v h1 h2 h3,h.his,h.outm,h.outh⟩
theorem Atr.congrT {T':Nat→Prop} (h:Atr own sx K A T q c r) (hT:∀ v,T v↔T' v):Atr own sx K A T' q c r :=
 ⟨h.sub,fun v h1=>h.base v ((hT v).2 h1),fun v h1 h2=>h.mine v h1 fun h3=>h2 ((hT v).1 h3),fun v h1 h2=>h.his v h1 fun h3=>h2 ((hT v).1 h3),h.outm,h.outh⟩
theorem Sol.none (h:∀ v,¬ K v):Sol own pri sx K W c p:=⟨fun v hv=>absurd hv (h v),fun v hv=>absurd hv (h v),fun v hv=>absurd hv (h v)⟩
theorem Sol.congrW (h:Sol own pri sx K W' c p) (hW:∀ v,K v→W v=W' v):Sol own pri sx K W c p:=by
 refine ⟨fun v h1 h2 h3=>?_,fun v h1 h2 h3 t ht hk=>?_,fun w h1 h2 h3=>?_⟩
 ·obtain ⟨a,b,d⟩:=h.mine v h1 ((hW v h1).symm.trans h2) h3
  exact ⟨a,b,(hW _ b).trans d⟩
 ·exact (hW t hk).trans (h.his v h1 ((hW v h1).symm.trans h2) h3 t ht hk)
 ·rintro ⟨t,ht,htw⟩
  refine h.cyc w h1 ((hW w h1).symm.trans h2) h3 (Zex ht htw fun a b _ _ e=>?_)
  obtain ⟨⟨e1,e2⟩,e3,e4,e5⟩:=e
  exact ⟨⟨e1,(hW a e1).symm.trans e2⟩,e3,e4,e5⟩
theorem mod2 (x:Int):x % 2=0∨x % 2=1:=by omega
open Classical in
theorem zsol {n:Nat} (hown:∀ v,v < n→own v=0∨own v=1) (hpri:∀ v,v < n→0≤pri v):∀ (k:Nat) (K:Nat→Bool),(∀ v,K v=true→v < n)→cntZ n K≤k→Trap sx (fun v=>K v=true) →
  (∀ v,K v=true→winZ own pri sx n k K v=0∨winZ own pri sx n k K v=1)∧∃ c,Sol own pri sx (fun v=>K v=true) (winZ own pri sx n k K) c 0∧Sol own pri sx (fun v=>K v=true) (winZ own pri sx n k K) c 1:=by
 intro k
 induction k with
 |zero =>
  intro K hn hc _
  have hno:∀ v,¬ K v=true:=fun v hv=>by have:=cnt_pos (hn v hv) hv;omega
  exact ⟨fun v hv=>absurd hv (hno v),fun _=>0,Sol.none hno,Sol.none hno⟩
 |succ k ih =>
  intro K hn hc hK
  by_cases ht:topR pri K n < 0
  ·have hno:∀ v,¬ K v=true:=fun v hv=>by
    have h1:=Zma (pri:=pri) hv (hn v hv)
    have h2:=hpri v (hn v hv)
    omega
   exact ⟨fun v hv=>absurd hv (hno v),fun _=>0,Sol.none hno,Sol.none hno⟩
  obtain ⟨v0,hv0,hk0,hp0⟩:∃ v,v < n∧K v=true∧pri v=topR pri K n:=topR_mem.resolve_left (by omega)
  have hunf:winZ own pri sx n (k+1) K=fun v=>if ∀ u,u < n→Zd6 own pri sx n K u=true→winZ own pri sx n k (Zd6 own pri sx n K) u=topR pri K n % 2 then topR pri K n % 2
    else if attB own sx K (fun u=>Zd6 own pri sx n K u && decide (winZ own pri sx n k (Zd6 own pri sx n K) u≠topR pri K n % 2)) (1 - topR pri K n % 2) v=true then 1 - topR pri K n % 2
    else winZ own pri sx n k (fun u=>K u && !attB own sx K (fun u=>Zd6 own pri sx n K u && decide (winZ own pri sx n k (Zd6 own pri sx n K) u≠topR pri K n % 2)) (1 - topR pri K n % 2) u) v:=by
   funext v
   rw [winZ,if_neg ht]
  rw [hunf]
  clear hunf
  have hTi:∀ v,topS pri K n v=true↔K v=true∧pri v=topR pri K n:=fun v=>by simp [topS]
  have htop:∀ v,K v=true→pri v≤topR pri K n:=fun v hv=>Zma hv (hn v hv)
  obtain ⟨cA,rA,hA⟩:=att_atr (own:=own) (sx:=sx) (K:=fun v=>K v=true) (T:=fun v=>topS pri K n v=true) (q:=topR pri K n % 2) fun v hv=>((hTi v).1 hv).1
  have hRi:∀ v,Zd6 own pri sx n K v=true↔K v=true∧¬ Att own sx (fun v=>K v=true) (fun v=>topS pri K n v=true) (topR pri K n % 2) v:=fun v=>by
   unfold Zd6
   rw [Bool.and_eq_true,Bool.not_eq_true',←attB_iff,Bool.not_eq_true]
  have hRf:(fun v=>Zd6 own pri sx n K v=true)=fun v=>K v=true∧¬ Att own sx (fun v=>K v=true) (fun v=>topS pri K n v=true) (topR pri K n % 2) v:=funext fun v=>propext (hRi v)
  have hRc:cntZ n (Zd6 own pri sx n K)≤k:=by
   have:=Zn9 (n:=n) (K:=K) (K':=Zd6 own pri sx n K) (v:=v0) (fun u hu=>((hRi u).1 hu).1) hv0 hk0 (by
    rw [Bool.eq_false_iff]
    exact fun h=>((hRi v0).1 h).2 (hA.base v0 ((hTi v0).2 ⟨hk0,hp0⟩)))
   omega
  obtain ⟨hw',c',hS0,hS1⟩:=ih (Zd6 own pri sx n K) (fun v hv=>hn v ((hRi v).1 hv).1) hRc (by rw [hRf];exact hA.trap hK)
  rw [hRf] at hS0 hS1
  have hSp:∀ q,q=0∨q=1→Sol own pri sx (fun v=>K v=true∧¬ Att own sx (fun v=>K v=true) (fun v=>topS pri K n v=true) (topR pri K n % 2) v) (winZ own pri sx n k (Zd6 own pri sx n K)) c' q:=fun q hq=>by rcases hq with rfl|rfl<;>assumption
  clear hS0 hS1
  have hpm:=mod2 (topR pri K n)
  generalize hp:topR pri K n % 2=p at *
  by_cases hall:∀ u,u < n→Zd6 own pri sx n K u=true→winZ own pri sx n k (Zd6 own pri sx n K) u=p
  ·simp only [if_pos hall]
   have hss:∀ v,∃ t,K v=true→t∈sx v∧K t=true:=fun v=>by
    by_cases h:K v=true
    ·obtain ⟨t,h1,h2⟩:=hK v h;exact ⟨t,fun _=>⟨h1,h2⟩⟩
    ·exact ⟨0,fun h'=>absurd h' h⟩
   refine ⟨fun _ _=>hpm,fun v=>if Att own sx (fun v=>K v=true) (fun v=>topS pri K n v=true) p v then (if topS pri K n v=true then Classical.choose (hss v) else cA v) else c' v,?_⟩
   have key:=sol_all (own:=own) (pri:=pri) (sx:=sx) (K:=fun v=>K v=true) (W:=fun _=>p) hp htop hTi (hA.congr (c:=fun v=>if Att own sx (fun v=>K v=true) (fun v=>topS pri K n v=true) p v then (if topS pri K n v=true then Classical.choose (hss v) else cA v) else c' v) fun v h1 h2 _=>by rw [if_pos h1,if_neg h2])
    (fun v hv _=>by
     rw [if_pos (hA.base v hv),if_pos hv]
     exact Classical.choose_spec (hss v) ((hTi v).1 hv).1)
    ((hSp p hpm).congr fun v hv _ _=>by rw [if_neg hv.2]) (fun v h1 h2=>hall v (hn v h1) ((hRi v).2 ⟨h1,h2⟩)) fun _ _=>rfl
   rcases hpm with e|e
   ·subst e;exact ⟨key.1,key.2 1 (by decide)⟩
   ·subst e;exact ⟨key.2 0 (by decide),key.1⟩
  ·simp only [if_neg hall]
   generalize hL:(fun u=>Zd6 own pri sx n K u && decide (winZ own pri sx n k (Zd6 own pri sx n K) u≠p))=L at *
   have hLi:∀ v,L v=true↔(K v=true∧¬ Att own sx (fun v=>K v=true) (fun v=>topS pri K n v=true) p v)∧winZ own pri sx n k (Zd6 own pri sx n K) v=1 - p:=fun v=>by
    rw [←hL]
    simp only [Bool.and_eq_true,hRi,decide_eq_true_eq]
    refine and_congr_right fun h=>?_
    have:=hw' v ((hRi v).2 h)
    omega
   have hLf:(fun v=>L v=true)=fun v=>(K v=true∧¬ Att own sx (fun v=>K v=true) (fun v=>topS pri K n v=true) p v)∧winZ own pri sx n k (Zd6 own pri sx n K) v=1 - p:=funext fun v=>propext (hLi v)
   obtain ⟨cB,rB,hB⟩:=att_atr (own:=own) (sx:=sx) (K:=fun v=>K v=true) (T:=fun v=>L v=true) (q:=1 - p) fun v hv=>((hLi v).1 hv).1.1
   obtain ⟨u0,hu0,hr0,hn0⟩:∃ u,u < n∧Zd6 own pri sx n K u=true∧winZ own pri sx n k (Zd6 own pri sx n K) u≠p:=Classical.byContradiction fun h=>hall fun u h1 h2=>Classical.byContradiction fun h3=>h ⟨u,h1,h2,h3⟩
   have hl0:L u0=true:=by rw [←hL];simp [hr0,hn0]
   have h2i:∀ v,(K v && !attB own sx K L (1 - p) v)=true↔K v=true∧¬ Att own sx (fun v=>K v=true) (fun v=>L v=true) (1 - p) v:=fun v=>by
    rw [Bool.and_eq_true,Bool.not_eq_true',←attB_iff,Bool.not_eq_true]
   have h2f:(fun v=>(K v && !attB own sx K L (1 - p) v)=true)=fun v=>K v=true∧¬ Att own sx (fun v=>K v=true) (fun v=>L v=true) (1 - p) v:=funext fun v=>propext (h2i v)
   have h2c:cntZ n (fun v=>K v && !attB own sx K L (1 - p) v)≤k:=by
    have:=Zn9 (n:=n) (K:=K) (K':=fun v=>K v && !attB own sx K L (1 - p) v) (v:=u0) (fun u hu=>((h2i u).1 hu).1) hu0 ((hLi u0).1 hl0).1.1 (by
     rw [Bool.eq_false_iff]
     exact fun h=>((h2i u0).1 h).2 (hB.base u0 hl0))
    omega
   obtain ⟨hw2,c2,h20,h21⟩:=ih (fun v=>K v && !attB own sx K L (1 - p) v) (fun v hv=>hn v ((h2i v).1 hv).1) h2c (by rw [h2f];exact hB.trap hK)
   rw [h2f] at h20 h21
   have h2p:∀ q,q=0∨q=1→Sol own pri sx (fun v=>K v=true∧¬ Att own sx (fun v=>K v=true) (fun v=>L v=true) (1 - p) v) (winZ own pri sx n k (fun v=>K v && !attB own sx K L (1 - p) v)) c2 q:=fun q hq=>by rcases hq with rfl|rfl<;>assumption
   have hq1:1 - p=0∨1 - p=1:=by omega
   refine ⟨fun v hv=>?_,fun v=>if L v=true then c' v else if Att own sx (fun v=>K v=true) (fun v=>L v=true) (1 - p) v then cB v else c2 v,?_⟩
   ·split
    ·exact hq1
    ·rename_i h
     exact hw2 v ((h2i v).2 ⟨hv,fun h'=>h (attB_iff.2 h')⟩)
   have hnl:∀ v,¬ Att own sx (fun v=>K v=true) (fun v=>L v=true) (1 - p) v→¬ L v=true:=fun v h h'=>h (hB.base v h')
   have hB2:=hB.congr (c:=fun v=>if L v=true then c' v else if Att own sx (fun v=>K v=true) (fun v=>L v=true) (1 - p) v then cB v else c2 v) fun v h1 h2 _=>by rw [if_neg h2,if_pos h1]
   have hS2:=(hSp (1 - p) hq1).congr (c:=fun v=>if L v=true then c' v else if Att own sx (fun v=>K v=true) (fun v=>L v=true) (1 - p) v then cB v else c2 v) fun v h1 h2 _=>by rw [if_pos ((hLi v).2 ⟨h1,h2⟩)]
   have h3:∀ q:Int,q=0∨q=1→Sol own pri sx (fun v=>K v=true∧¬ Att own sx (fun v=>K v=true) (fun v=>L v=true) (1 - p) v) (winZ own pri sx n k (fun v=>K v && !attB own sx K L (1 - p) v)) (fun v=>if L v=true then c' v else if Att own sx (fun v=>K v=true) (fun v=>L v=true) (1 - p) v then cB v else c2 v) q:=fun q hq=>(h2p q hq).congr fun v h1 _ _=>by rw [if_neg (hnl v h1.2),if_neg h1.2]
   have key:=sol_part (own:=own) (pri:=pri) (sx:=sx) (p:=p) (q:=1 - p) (W:=fun v=>if attB own sx K L (1 - p) v=true then 1 - p else winZ own pri sx n k (fun u=>K u && !attB own sx K L (1 - p) u) v) (by omega)
    (fun v hv=>by have:=hown v (hn v hv);omega) hA hS2 (hB2.congrT hLi) (h3 p hpm) (h3 (1 - p) hq1)
    (fun v hv=>if_pos (attB_iff.2 hv)) (fun v hv hb=>if_neg fun h=>hb (attB_iff.1 h))
   rcases hpm with e|e
   ·subst e;exact ⟨key.1,key.2⟩
   ·subst e;exact ⟨key.2,key.1⟩
/-! ### There is one solution -/
theorem max_at {f:Nat→Int}:∀ {L k:Nat},k < L→∃ m,k≤m∧m < L∧∀ j,k≤j→j < L→f j≤f m
 |0,k,h=>absurd h (Nat.not_lt_zero _)
 |L+1,k,h=>by
  by_cases e:k=L
  ·subst e
   exact ⟨k,Nat.le_refl _,by omega,fun j h1 h2=>by rw [show j=k by omega];exact Int.le_refl _⟩
  ·obtain ⟨m,h1,h2,h3⟩:=max_at (f:=f) (L:=L) (k:=k) (by omega)
   by_cases h4:f m≤f L
   ·refine ⟨L,by omega,by omega,fun j h5 h6=>?_⟩
    by_cases h7:j=L
    ·rw [h7];exact Int.le_refl _
    ·have:=h3 j h5 (by omega);omega
   ·refine ⟨m,h1,by omega,fun j h5 h6=>?_⟩
    by_cases h7:j=L
    ·rw [h7];omega
    ·exact h3 j h5 (by omega)
theorem cyc_of {F:Nat→Nat} {D:Nat→Prop} {n s:Nat} (hD:∀ v,D v→v < n∧D (F v)) (hs:D s):∃ w,D w∧∀ E:Nat→Nat→Prop,(∀ v,D v→E v (F v))→Cyc E pri w:=by
 have hor:∀ j,D (orb F s j):=fun j=>by
  induction j with
  |zero=>exact hs
  |succ j ih=>exact (hD _ ih).2
 obtain ⟨L,k,⟨_,hkL,he⟩,_⟩:=again_ex (f:=F) (s:=s) (n:=n) fun j=>(hD _ (hor j)).1
 obtain ⟨m,h1,h2,h3⟩:=max_at (f:=fun j=>pri (orb F s j)) hkL
 refine ⟨orb F s m,hor m,fun E hE=>?_⟩
 have hle:∀ j,k≤j→j≤L→pri (orb F s j)≤pri (orb F s m):=fun j h4 h5=>by
  by_cases h6:j=L
  ·rw [h6,he];exact h3 k (Nat.le_refl _) hkL
  ·exact h3 j h4 (by omega)
 have hst:∀ a b,k≤a→a≤b→b≤L→Rch (Low E pri (orb F s m)) (orb F s a) (orb F s b):=fun a b ha hab hb=>by
  induction b with
  |zero=>rw [show a=0 by omega];exact .refl _
  |succ b ih =>
   by_cases h:a=b+1
   ·rw [h];exact .refl _
   ·exact .step (ih (by omega) (by omega)) ⟨hE _ (hor b),hle (b+1) (by omega) hb⟩
 refine ⟨orb F s (m+1),⟨hE _ (hor m),hle (m+1) (by omega) (by omega)⟩,?_⟩
 have h4:=hst (m+1) L (by omega) (by omega) (Nat.le_refl _)
 rw [he] at h4
 exact h4.trans (hst k m (Nat.le_refl _) h1 (by omega))
theorem Zes {n:Nat} {V:Nat→Int} {d:Nat→Nat} (hn:∀ v,K v→v < n) (h0:Sol own pri sx K W c 0) (h1:Sol own pri sx K V d 1) (hown:∀ v,K v→own v=0∨own v=1) {v:Nat} (hv:K v) (hw:W v=0):V v≠1:=fun hv1=>by
 obtain ⟨w,⟨a1,a2,a3⟩,hc⟩:=cyc_of (pri:=pri) (F:=fun v=>if own v=0 then c v else d v) (D:=fun v=>K v∧W v=0∧V v=1) (n:=n) (s:=v) (fun u hu=>⟨hn u hu.1,by
  by_cases ho:own u=0
  ·rw [if_pos ho]
   obtain ⟨b1,b2,b3⟩:=h0.mine u hu.1 hu.2.1 ho
   exact ⟨b2,b3,h1.his u hu.1 hu.2.2 (by omega) _ b1 b2⟩
  ·rw [if_neg ho]
   obtain ⟨b1,b2,b3⟩:=h1.mine u hu.1 hu.2.2 ((hown u hu.1).resolve_left ho)
   exact ⟨b2,h0.his u hu.1 hu.2.1 ho _ b1 b2,b3⟩⟩) ⟨hv,hw,hv1⟩
 by_cases hp:pri w % 2=0
 ·refine h1.cyc w a1 a3 (by omega) (hc _ fun u hu=>⟨⟨hu.1,hu.2.2⟩,?_,fun ho=>?_,fun ho=>?_⟩)
  ·by_cases ho:own u=0
   ·rw [if_pos ho];exact (h0.mine u hu.1 hu.2.1 ho).2.1
   ·rw [if_neg ho];exact (h1.mine u hu.1 hu.2.2 ((hown u hu.1).resolve_left ho)).2.1
  ·rw [if_neg (by omega)]
  ·have ho:own u=0:=(hown u hu.1).resolve_right ho
   rw [if_pos ho];exact (h0.mine u hu.1 hu.2.1 ho).1
 ·refine h0.cyc w a1 a2 hp (hc _ fun u hu=>⟨⟨hu.1,hu.2.1⟩,?_,fun ho=>?_,fun ho=>?_⟩)
  ·by_cases ho:own u=0
   ·rw [if_pos ho];exact (h0.mine u hu.1 hu.2.1 ho).2.1
   ·rw [if_neg ho];exact (h1.mine u hu.1 hu.2.2 ((hown u hu.1).resolve_left ho)).2.1
  ·rw [if_pos ho]
  ·rw [if_neg ho];exact (h1.mine u hu.1 hu.2.2 ((hown u hu.1).resolve_left ho)).1
end
open Go Pl
noncomputable def winG (g:Gm) (k:Nat) (K:Nat→Bool):Nat→Int:=winZ (fun v=>g.own.getD v 0) (fun v=>g.pri.getD v 0) (rws g.nxt) g.own.length k K
noncomputable def winL (g:Gm) (k:Nat) (K:Nat→Bool):List Int:=(List.range g.own.length).map (winG g k K)
theorem winL_getD {g:Gm} {k:Nat} {K:Nat→Bool} {v:Nat} (hv:v < g.own.length):(winL g k K).getD v 0=winG g k K v:=by
 simp [winL,List.getD_eq_getElem?_getD,hv]
open Go Pl
noncomputable def winA (g:Gm):List Int:=winL g (g.own.length+1) fun v=>decide (v < g.own.length)
section
open Go Pl
structure GOk (g:Gm):Prop where
 pl:g.pri.length=g.own.length
 xl:g.nxt.length=g.own.length
 n:g.own.length≤20000
 own:∀ v,v < g.own.length→g.own.getD v 0=0∨g.own.getD v 0=1
 pri:∀ v,v < g.own.length→0≤g.pri.getD v 0∧g.pri.getD v 0≤60
 row:∀ v,v < g.own.length→∀ t,t∈rws g.nxt v→t < g.own.length
 len:∀ v,v < g.own.length→0 < (g.nxt.getD v []).length∧(g.nxt.getD v []).length≤64
 at':∀ v,v < g.own.length→∀ j,j < (g.nxt.getD v []).length→0≤(g.nxt.getD v []).getD j 0∧(g.nxt.getD v []).getD j 0 < g.own.length
theorem gok {g:Gm} (h:Zc1 g):GOk g:=by
 obtain ⟨hn,hpl,hxl,hpos⟩:=h
 have hr:∀ v,v < g.own.length→∀ j,j < (g.nxt.getD v []).length→0≤(g.nxt.getD v []).getD j 0∧(g.nxt.getD v []).getD j 0 < g.own.length:=fun v hv j hj=>by
  obtain ⟨_,hr⟩:=hpos v hv
  exact ⟨(hr j hj).1,(hr j hj).2.1⟩
 refine ⟨hpl,hxl,hn,fun v hv=>?_,fun v hv=>?_,fun v hv t ht=>?_,fun v hv=>?_,hr⟩
 ·obtain ⟨⟨a1,a2,a3,a4,a5,a6⟩,_⟩:=hpos v hv
  simp only [Gm.o] at a1 a2
  omega
 ·obtain ⟨⟨a1,a2,a3,a4,a5,a6⟩,_⟩:=hpos v hv
  exact ⟨a3,a4⟩
 ·obtain ⟨s,h1,rfl⟩:=List.mem_map.1 ht
  obtain ⟨j,hj,rfl⟩:=List.getElem_of_mem h1
  have:=hr v hv j hj
  rw [List.getD_eq_getElem?_getD,List.getElem?_eq_getElem hj,Option.getD_some] at this
  omega
 ·obtain ⟨⟨a1,a2,a3,a4,a5,a6⟩,_⟩:=hpos v hv
  exact ⟨a5,a6⟩
theorem Zfd {g:Gm} (hV:Zc1 g):(∀ v,v < g.own.length→(winA g).getD v 0=0∨(winA g).getD v 0=1)∧∃ c,Sol (fun v=>g.own.getD v 0) (fun v=>g.pri.getD v 0) (rws g.nxt) (fun v=>v < g.own.length) (fun v=>(winA g).getD v 0) c 0∧Sol (fun v=>g.own.getD v 0) (fun v=>g.pri.getD v 0) (rws g.nxt) (fun v=>v < g.own.length) (fun v=>(winA g).getD v 0) c 1:=by
 have hG:=gok hV
 have hK:(fun v=>(decide (v < g.own.length))=true)=fun v=>v < g.own.length:=funext fun v=>by simp
 have hc:cntZ g.own.length (fun v=>decide (v < g.own.length))≤g.own.length+1:=by
  have:cntZ g.own.length (fun v=>decide (v < g.own.length))≤(List.range g.own.length).length:=List.countP_le_length
  rw [List.length_range] at this;omega
 obtain ⟨h1,c,h2,h3⟩:=zsol (own:=fun v=>g.own.getD v 0) (pri:=fun v=>g.pri.getD v 0) (sx:=rws g.nxt) (n:=g.own.length) hG.own (fun v hv=>(hG.pri v hv).1) (g.own.length+1) (fun v=>decide (v < g.own.length)) (fun v hv=>of_decide_eq_true hv) hc (by
  rw [hK]
  intro v hv
  have h0:=(hG.len v hv).1
  have hm:(rws g.nxt v)[0]'(by rw [Zfx];exact h0)∈rws g.nxt v:=List.getElem_mem _
  exact ⟨_,hm,hG.row v hv _ hm⟩)
 rw [hK] at h2 h3
 have hW:∀ v,v < g.own.length→(winA g).getD v 0=winG g (g.own.length+1) (fun v=>decide (v < g.own.length)) v:=fun v hv=>winL_getD hv
 refine ⟨fun v hv=>?_,c,Sol.congrW h2 hW,Sol.congrW h3 hW⟩
 rw [hW v hv]
 exact h1 v (decide_eq_true hv)
end
section
open Go Pl
theorem Rch.mapD {E E':Nat→Nat→Prop} {D:Nat→Prop} {f:Nat→Nat} (h:∀ a b,D a→E a b→E' (f a) (f b)∧D b) {a b:Nat} (hr:Rch E a b) (ha:D a):Rch E' (f a) (f b)∧D b:=by
 induction hr with
 |refl=>exact ⟨.refl _,ha⟩
 |step _ e ih=>exact ⟨.step ih.1 (h _ _ ih.2 e).1,(h _ _ ih.2 e).2⟩
theorem Zn2 {k:List Bool} {v:Nat} (h:k.getD v false=true):∀ {n:Nat},v < n→(kp k v).length < (kp k n).length∧(kp k n).getD (kp k v).length 0=v
 |0,hv=>absurd hv (Nat.not_lt_zero v)
 |n+1,hv=>by
  rw [Zmt]
  by_cases e:v=n
  ·subst e
   rw [if_pos h]
   refine ⟨by simp,?_⟩
   rw [List.getD_eq_getElem?_getD,List.getElem?_append_right (Nat.le_refl _),Nat.sub_self];rfl
  ·obtain ⟨h1,h2⟩:=Zn2 h (n:=n) (by omega)
   split
   ·refine ⟨by rw [List.length_append,List.length_singleton];omega,?_⟩
    rw [List.getD_eq_getElem?_getD,List.getElem?_append_left h1,←List.getD_eq_getElem?_getD];exact h2
   ·exact ⟨h1,h2⟩
theorem kp_at {k:List Bool} {n i:Nat} (h:i < (kp k n).length):(kp k n).getD i 0 < n∧k.getD ((kp k n).getD i 0) false=true:=by
 have hm:(kp k n).getD i 0∈kp k n:=by
  rw [List.getD_eq_getElem?_getD,List.getElem?_eq_getElem h];exact List.getElem_mem h
 have:=List.mem_filter.1 hm
 exact ⟨List.mem_range.1 this.1,this.2⟩
theorem map_getD {α:Type} {f:Nat→α} {l:List Nat} {i:Nat} {d:α} (h:i < l.length):(l.map f).getD i d=f (l.getD i 0):=by
 simp [List.getD_eq_getElem?_getD,h]
theorem Zfr {f:Int→Int} {l:List Int} {i:Nat} (h:i < l.length):(l.map f).getD i 0=f (l.getD i 0):=by
 simp [List.getD_eq_getElem?_getD,h]
def selL (g:Gm) (W:List Int) (p:Int):List Bool:=(List.range g.own.length).map fun v=>decide (W.getD v 0=p)
theorem Zjl {g:Gm} {W:List Int} {p:Int} {v:Nat} (hv:v < g.own.length):(selL g W p).getD v false=true↔W.getD v 0=p:=by
 simp [selL,List.getD_eq_getElem?_getD,hv]
def nmF (k:List Bool) (v:Nat):Int:=if k.getD v false=true then ((kp k v).length:Int) else -1
def nxF (g:Gm) (C:List Int) (p:Int) (v:Nat):List Int:=if g.own.getD v 0=p then [C.getD v 0] else g.nxt.getD v []
def folG (g:Gm) (W C:List Int) (p:Int):Gm:=⟨(kp (selL g W p) g.own.length).map fun v=>g.own.getD v 0,(kp (selL g W p) g.own.length).map fun v=>g.pri.getD v 0,(kp (selL g W p) g.own.length).map fun v=>(nxF g C p v).map fun t=>nmF (selL g W p) t.toNat⟩
open Classical in
noncomputable def cloB (g:Gm) (W C:List Int) (p:Int):Bool:=decide (∀ v,v < g.own.length→W.getD v 0=p→∀ t,t∈nxF g C p v→W.getD t.toNat 0=p)
open Classical in
noncomputable def Zcy (g:Gm) (W C:List Int):Bool:=decide (W.length=g.own.length∧C.length=g.own.length∧∀ v,v < g.own.length→(W.getD v 0=0∨W.getD v 0=1)∧(g.own.getD v 0=W.getD v 0→C.getD v 0∈g.nxt.getD v [])∧(g.own.getD v 0≠W.getD v 0→C.getD v 0 = -1))
noncomputable def slP (g:Gm) (W C:List Int) (p:Int):Bool:=cloB g W C p && !(Zj4 (folG g W C p) (1 - p)).any id
noncomputable def solB (g:Gm) (W C:List Int):Bool:=Zcy g W C && slP g W C 0 && slP g W C 1
theorem Zdv {l:List Int} {t:Int} (h:t∈l):∃ j,j < l.length∧l.getD j 0=t:=by
 obtain ⟨j,hj,e⟩:=List.getElem_of_mem h
 exact ⟨j,hj,by rw [List.getD_eq_getElem?_getD,List.getElem?_eq_getElem hj,Option.getD_some];exact e⟩
theorem Znw {g:Gm} (hG:GOk g) {W C:List Int} {p:Int} (hc:∀ v,v < g.own.length→W.getD v 0=p→g.own.getD v 0=p→C.getD v 0∈g.nxt.getD v []) {v:Nat} (hv:v < g.own.length) (hw:W.getD v 0=p) {t:Int} (ht:t∈nxF g C p v) :
  t∈g.nxt.getD v []∧0≤t∧t < g.own.length:=by
 have hm:t∈g.nxt.getD v []:=by
  unfold nxF at ht
  split at ht
  ·rename_i h;rw [List.mem_singleton.1 ht];exact hc v hv hw h
  ·exact ht
 obtain ⟨j,hj,e⟩:=Zdv hm
 have:=hG.at' v hv j hj
 rw [e] at this
 exact ⟨hm,this⟩
theorem Zm7 {g:Gm} (hV:Zc1 g) {W C:List Int} {p:Int} (hp:p=0∨p=1) (hc:∀ v,v < g.own.length→W.getD v 0=p→g.own.getD v 0=p→C.getD v 0∈g.nxt.getD v []) :
  slP g W C p=true↔Sol (fun v=>g.own.getD v 0) (fun v=>g.pri.getD v 0) (rws g.nxt) (fun v=>v < g.own.length) (fun v=>W.getD v 0) (fun v=>(C.getD v 0).toNat) p:=by
 have hG:=gok hV
 have hn:(folG g W C p).own.length=(kp (selL g W p) g.own.length).length:=List.length_map ..
 have hpr:∀ i,i < (kp (selL g W p) g.own.length).length→(folG g W C p).pri.getD i 0=g.pri.getD ((kp (selL g W p) g.own.length).getD i 0) 0:=fun i hi=>map_getD hi
 have hrw:∀ i,i < (kp (selL g W p) g.own.length).length→rws (folG g W C p).nxt i=(nxF g C p ((kp (selL g W p) g.own.length).getD i 0)).map fun t=>(nmF (selL g W p) t.toNat).toNat:=fun i hi=>by
  have:(folG g W C p).nxt.getD i []=(nxF g C p ((kp (selL g W p) g.own.length).getD i 0)).map fun t=>nmF (selL g W p) t.toNat:=map_getD hi
  unfold rws
  rw [this,List.map_map];rfl
 have hnx:∀ v t,t∈nxF g C p v→(g.own.getD v 0=p→t.toNat=(C.getD v 0).toNat)∧(g.own.getD v 0≠p→t.toNat∈rws g.nxt v):=fun v t ht=>by
  unfold nxF at ht
  split at ht
  ·rename_i h;rw [List.mem_singleton.1 ht];exact ⟨fun _=>rfl,fun h2=>absurd h h2⟩
  ·rename_i h;exact ⟨fun h2=>absurd h2 h,fun _=>List.mem_map.2 ⟨t,ht,rfl⟩⟩
 have hxn:∀ v t,((g.own.getD v 0=p→t=(C.getD v 0).toNat)∧(g.own.getD v 0≠p→t∈rws g.nxt v))→∃ s,s∈nxF g C p v∧s.toNat=t:=fun v t h=>by
  unfold nxF
  split
  ·rename_i e;exact ⟨_,List.mem_singleton.2 rfl,(h.1 e).symm⟩
  ·rename_i e;obtain ⟨s,h1,h2⟩:=List.mem_map.1 (h.2 e);exact ⟨s,h1,h2⟩
 have hany:(!(Zj4 (folG g W C p) (1 - p)).any id)=true↔∀ i,i < (kp (selL g W p) g.own.length).length→¬ Zo6 (folG g W C p) (1 - p) i:=by
  rw [Bool.not_eq_true',List.any_eq_false]
  constructor
  ·intro h i hi ha
   have h1:=(aloneL_getD (g:=folG g W C p) (by rw [hn];exact hi)).2 ha
   have hlt:i < (Zj4 (folG g W C p) (1 - p)).length:=by simp [Zj4,hn,hi]
   rw [List.getD_eq_getElem?_getD,List.getElem?_eq_getElem hlt,Option.getD_some] at h1
   exact h _ (List.getElem_mem hlt) (by rw [h1];rfl)
  ·intro h b hb hb2
   obtain ⟨i,hi,e⟩:=List.getElem_of_mem hb
   have hi2:i < (kp (selL g W p) g.own.length).length:=by simpa [Zj4,hn] using hi
   refine h i hi2 ((aloneL_getD (g:=folG g W C p) (by rw [hn];exact hi2)).1 ?_)
   rw [List.getD_eq_getElem?_getD,List.getElem?_eq_getElem hi,Option.getD_some,e]
   exact hb2
 unfold slP
 rw [Bool.and_eq_true,hany]
 constructor
 ·rintro ⟨hcl,hno⟩
  have hcl:=of_decide_eq_true hcl
  have hidx:∀ v,v < g.own.length→W.getD v 0=p→(kp (selL g W p) v).length < (kp (selL g W p) g.own.length).length∧(kp (selL g W p) g.own.length).getD (kp (selL g W p) v).length 0=v:=fun v hv hw=>Zn2 ((Zjl hv).2 hw) hv
  refine ⟨fun v hv hw ho=>?_,fun v hv hw ho t ht hk=>?_,fun w hk hw hpw hcy=>?_⟩
  ·have h1:=hc v hv hw ho
   have hm:C.getD v 0∈nxF g C p v:=by unfold nxF;rw [if_pos ho];exact List.mem_singleton.2 rfl
   have hb:=Znw hG hc hv hw hm
   exact ⟨List.mem_map.2 ⟨_,h1,rfl⟩,by omega,hcl v hv hw _ hm⟩
  ·obtain ⟨s,h1,h2⟩:=hxn v t ⟨fun h=>absurd h ho,fun _=>ht⟩
   rw [←h2];exact hcl v hv hw s h1
  ·obtain ⟨t,ht,htw⟩:=hcy
   have hE:∀ a b,True→Low (Stp (fun v=>g.own.getD v 0) (rws g.nxt) (fun v=>v < g.own.length) (fun v=>W.getD v 0) (fun v=>(C.getD v 0).toNat) p) (fun v=>g.pri.getD v 0) w a b→Ed (rws (folG g W C p).nxt) (okP (folG g W C p).pri (g.pri.getD w 0)) (kp (selL g W p) a).length (kp (selL g W p) b).length∧True:=fun a b _ hab=>by
    obtain ⟨⟨⟨h1,h1w⟩,h2,h3,h4⟩,h5⟩:=hab
    obtain ⟨s,hs1,hs2⟩:=hxn a b ⟨h3,h4⟩
    obtain ⟨i1,i2⟩:=hidx a h1 h1w
    have hbw:W.getD b 0=p:=by rw [←hs2];exact hcl a h1 h1w s hs1
    obtain ⟨j1,j2⟩:=hidx b h2 hbw
    refine ⟨⟨?_,?_⟩,trivial⟩
    ·rw [hrw _ i1,i2]
     refine List.mem_map.2 ⟨s,hs1,?_⟩
     rw [hs2]
     unfold nmF
     rw [if_pos ((Zjl h2).2 hbw)];rfl
    ·show (folG g W C p).pri.getD _ 0≤_
     rw [hpr _ j1,j2];exact h5
   obtain ⟨i1,i2⟩:=hidx w hk hw
   refine hno _ i1 ⟨_,by rw [hn];exact i1,⟨?_,(kp (selL g W p) t).length,?_,?_⟩,.refl _⟩
   ·rw [hpr _ i1,i2]
    have:=mod2 (g.pri.getD w 0)
    have hpw:¬ g.pri.getD w 0 % 2=p:=hpw
    omega
   ·rw [hpr _ i1,i2];exact (hE w t trivial ht).1
   ·rw [hpr _ i1,i2];exact (Rch.mapD (D:=fun _=>True) hE htw trivial).1
 ·intro hS
  have hcl:∀ v,v < g.own.length→W.getD v 0=p→∀ t,t∈nxF g C p v→W.getD t.toNat 0=p:=fun v hv hw t ht=>by
   have hb:=Znw hG hc hv hw ht
   have:=hnx v t ht
   by_cases e:g.own.getD v 0=p
   ·rw [this.1 e];exact (hS.mine v hv hw e).2.2
   ·exact hS.his v hv hw e t.toNat (this.2 e) (by omega)
  refine ⟨decide_eq_true hcl,fun i hi=>?_⟩
  rintro ⟨w,hwn,⟨h1,t,ht,htw⟩,h2⟩
  rw [hn] at hwn
  have hE:∀ a b,a < (kp (selL g W p) g.own.length).length→Ed (rws (folG g W C p).nxt) (okP (folG g W C p).pri ((folG g W C p).pri.getD w 0)) a b→Low (Stp (fun v=>g.own.getD v 0) (rws g.nxt) (fun v=>v < g.own.length) (fun v=>W.getD v 0) (fun v=>(C.getD v 0).toNat) p) (fun v=>g.pri.getD v 0) ((kp (selL g W p) g.own.length).getD w 0) ((kp (selL g W p) g.own.length).getD a 0) ((kp (selL g W p) g.own.length).getD b 0)∧b < (kp (selL g W p) g.own.length).length:=fun a b ha hab=>by
   obtain ⟨h3,h4⟩:=hab
   rw [hrw a ha] at h3
   obtain ⟨s,hs1,hs2⟩:=List.mem_map.1 h3
   obtain ⟨k1,k2⟩:=kp_at ha
   have kw:=(Zjl k1).1 k2
   have hb:=Znw hG hc k1 kw hs1
   have hsn:s.toNat < g.own.length:=by omega
   have hsw:=hcl _ k1 kw s hs1
   have hsk:=(Zjl (g:=g) (W:=W) (p:=p) hsn).2 hsw
   have hbi:b=(kp (selL g W p) s.toNat).length:=by
    rw [←hs2];unfold nmF;rw [if_pos hsk];rfl
   obtain ⟨j1,j2⟩:=Zn2 hsk hsn
   rw [←hbi] at j1 j2
   have h4:(folG g W C p).pri.getD b 0≤(folG g W C p).pri.getD w 0:=h4
   rw [hpr _ j1,hpr _ hwn] at h4
   refine ⟨⟨⟨⟨k1,kw⟩,?_,?_,?_⟩,h4⟩,j1⟩
   ·rw [j2];exact hsn
   ·rw [j2];exact (hnx _ s hs1).1
   ·rw [j2];exact (hnx _ s hs1).2
  obtain ⟨k1,k2⟩:=kp_at hwn
  have kw:=(Zjl k1).1 k2
  have ht2:=hE w t hwn ht
  refine hS.cyc _ k1 kw (fun h3=>?_) ⟨_,ht2.1,(Rch.mapD (D:=fun a=>a < (kp (selL g W p) g.own.length).length) hE htw ht2.2).1⟩
  have h1:(folG g W C p).pri.getD w 0 % 2=1 - p:=h1
  rw [hpr _ hwn] at h1
  have h3:g.pri.getD ((kp (selL g W p) g.own.length).getD w 0) 0 % 2=p:=h3
  omega
theorem Zlj {g:Gm} {W C:List Int} {p:Int} (h:Zcy g W C=true):∀ v,v < g.own.length→W.getD v 0=p→g.own.getD v 0=p→C.getD v 0∈g.nxt.getD v []:=fun v hv hw ho=>((of_decide_eq_true h).2.2 v hv).2.1 (ho.trans hw.symm)
theorem Zhj {g:Gm} (hV:Zc1 g) {W C:List Int}:solB g W C=true↔Zcy g W C=true∧∀ p,p=0∨p=1→Sol (fun v=>g.own.getD v 0) (fun v=>g.pri.getD v 0) (rws g.nxt) (fun v=>v < g.own.length) (fun v=>W.getD v 0) (fun v=>(C.getD v 0).toNat) p:=by
 unfold solB
 rw [Bool.and_eq_true,Bool.and_eq_true]
 constructor
 ·rintro ⟨⟨h1,h2⟩,h3⟩
  refine ⟨h1,fun p hp=>?_⟩
  rcases hp with rfl|rfl
  ·exact (Zm7 hV (.inl rfl) (Zlj h1)).1 h2
  ·exact (Zm7 hV (.inr rfl) (Zlj h1)).1 h3
 ·rintro ⟨h1,h2⟩
  exact ⟨⟨h1,(Zm7 hV (.inl rfl) (Zlj h1)).2 (h2 0 (.inl rfl))⟩,(Zm7 hV (.inr rfl) (Zlj h1)).2 (h2 1 (.inr rfl))⟩
theorem Zkm {own own' pri pri':Nat→Int} {sx:Nat→List Nat} {K:Nat→Prop} {W W':Nat→Int} {c:Nat→Nat} {p p' s:Int} (h:Sol own pri sx K W c p) (hp:p'=1 - p) (hs:s % 2=1)
  (ho:∀ v,K v→own' v=1 - own v) (hpr:∀ v,K v→pri' v=pri v+s) (hW:∀ v,K v→W' v=1 - W v):Sol own' pri' sx K W' c p':=by
 have e1:∀ v,K v→(W' v=p'↔W v=p):=fun v hv=>by rw [hW v hv,hp];omega
 have e2:∀ v,K v→(own' v=p'↔own v=p):=fun v hv=>by rw [ho v hv,hp];omega
 refine ⟨fun v hv hw h0=>?_,fun v hv hw h0 t ht hk=>?_,fun w hk hw hpw hc=>?_⟩
 ·obtain ⟨a1,a2,a3⟩:=h.mine v hv ((e1 v hv).1 hw) ((e2 v hv).1 h0)
  exact ⟨a1,a2,(e1 _ a2).2 a3⟩
 ·exact (e1 t hk).2 (h.his v hv ((e1 v hv).1 hw) (fun e=>h0 ((e2 v hv).2 e)) t ht hk)
 ·refine h.cyc w hk ((e1 w hk).1 hw) (fun e=>hpw ?_) ?_
  ·rw [hpr w hk,hp];omega
  ·obtain ⟨t,ht,htw⟩:=hc
   have hE:∀ a b,Low (Stp own' sx K W' c p') pri' w a b→Low (Stp own sx K W c p) pri w a b:=fun a b hab=>by
    obtain ⟨⟨⟨h1,h2⟩,h3,h4,h5⟩,h6⟩:=hab
    refine ⟨⟨⟨h1,(e1 a h1).1 h2⟩,h3,fun e=>h4 ((e2 a h1).2 e),fun e=>h5 fun e3=>e ((e2 a h1).1 e3)⟩,?_⟩
    rw [hpr b h3,hpr w hk] at h6
    omega
   exact ⟨t,hE _ _ ht,Rch.mono hE htw⟩
def Zcx (g:Gm):Gm:=⟨g.own.map fun o=>1 - o,g.pri.map fun p=>p+1,g.nxt⟩
theorem Zij {g:Gm} (hV:Zc1 g) (h60:∀ v,v < g.own.length→g.pri.getD v 0≠60):Zc1 (Zcx g):=by
 obtain ⟨hn,hpl,hxl,hpos⟩:=hV
 have hl:(Zcx g).n=g.n:=List.length_map ..
 refine ⟨by rw [hl];exact hn,by rw [hl,←hpl];exact List.length_map ..,by rw [hl];exact hxl,fun v hv=>?_⟩
 rw [hl] at hv
 obtain ⟨⟨a1,a2,a3,a4,a5,a6⟩,hr⟩:=hpos v hv
 have e1:(Zcx g).o v=1 - g.o v:=Zfr hv
 have e2:(Zcx g).p v=g.p v+1:=Zfr (f:=fun p=>p+1) (by rw [hpl];exact hv)
 have h6:g.p v≠60:=h60 v hv
 unfold Zox
 rw [e1,e2,hl]
 exact ⟨⟨by omega,by omega,by omega,by omega,a5,a6⟩,hr⟩
theorem win_turn {g:Gm} (hV:Zc1 g) (h60:∀ v,v < g.own.length→g.pri.getD v 0≠60) {v:Nat} (hv:v < g.own.length):(winA (Zcx g)).getD v 0=1 - (winA g).getD v 0:=by
 have hVd:=Zij hV h60
 have hG:=gok hV
 obtain ⟨h1,c,h2,h3⟩:=Zfd hV
 obtain ⟨g1,d,g2,g3⟩:=Zfd hVd
 have hn:(Zcx g).own.length=g.own.length:=List.length_map ..
 rw [hn] at g1 g2 g3
 have ho:∀ v,v < g.own.length→(Zcx g).own.getD v 0=1 - g.own.getD v 0:=fun v hv=>Zfr hv
 have hp:∀ v,v < g.own.length→(Zcx g).pri.getD v 0=g.pri.getD v 0+1:=fun v hv=>Zfr (f:=fun p=>p+1) (by rw [hG.pl];exact hv)
 have t0:=Zkm (own':=fun v=>(Zcx g).own.getD v 0) (pri':=fun v=>(Zcx g).pri.getD v 0) (W':=fun v=>1 - (winA g).getD v 0) (p':=1) (s:=1) h2 rfl (by decide) ho hp (fun v _=>rfl)
 have t1:=Zkm (own':=fun v=>(Zcx g).own.getD v 0) (pri':=fun v=>(Zcx g).pri.getD v 0) (W':=fun v=>1 - (winA g).getD v 0) (p':=0) (s:=1) h3 rfl (by decide) ho hp (fun v _=>rfl)
 have hown:∀ v,v < g.own.length→(Zcx g).own.getD v 0=0∨(Zcx g).own.getD v 0=1:=fun v hv=>by
  have:=hG.own v hv
  rw [ho v hv];omega
 have a1:=h1 v hv
 have b1:=g1 v hv
 rcases a1 with e|e
 ·rcases b1 with e2|e2
  ·exact absurd (by rw [e];rfl) (Zes (fun v hv=>hv) g2 t0 hown hv e2)
  ·rw [e,e2];rfl
 ·rcases b1 with e2|e2
  ·rw [e,e2];rfl
  ·exact absurd e2 (Zes (fun v hv=>hv) t1 g3 hown hv (by rw [e];rfl))
end
open Go Pl
noncomputable def clmE (g:Gm) (W C:List Int):Int:=if Zau g=true then (if Zcy g W C=true then 0 else 4) else 1
theorem clm_1 {g:Gm} {W C:List Int} (h:Zau g=false):clmE g W C=1:=by unfold clmE;rw [if_neg (by rw [h];decide)]
theorem Zo3 {g:Gm} {W C:List Int} (h:Zau g=true) (h2:Zcy g W C=false):clmE g W C=4:=by unfold clmE;rw [if_pos h,if_neg (by rw [h2];decide)]
theorem clm_0 {g:Gm} {W C:List Int} (h:Zau g=true) (h2:Zcy g W C=true):clmE g W C=0:=by unfold clmE;rw [if_pos h,if_pos h2]
theorem clm_or (g:Gm) (W C:List Int):(Zau g=true∧Zcy g W C=true∧clmE g W C=0)∨(clmE g W C=1∧Zau g=false)∨(clmE g W C=4∧Zau g=true∧Zcy g W C=false):=by
 cases h:Zau g with
 |false=>exact .inr (.inl ⟨clm_1 h,rfl⟩)
 |true =>
  cases h2:Zcy g W C with
  |false=>exact .inr (.inr ⟨Zo3 h h2,rfl,rfl⟩)
  |true=>exact .inl ⟨rfl,rfl,clm_0 h h2⟩
def seI (e:Int) (l:List Int):List Int:=if e=0 then l else []
def seII (e:Int) (l:List (List Int)):List (List Int):=if e=0 then l else []
noncomputable def clmS : Spec
 |[.agg (.cons (.roI o) (.cons (.roI p) (.cons (.roII x) .nil))),.agg (.cons (.roI w) (.cons (.roI c) .nil))]=>some ⟨True,.tup (.cons (.agg (.cons (.roI (seI (clmE ⟨o,p,x⟩ w c) o)) (.cons (.roI (seI (clmE ⟨o,p,x⟩ w c) p)) (.cons (.roII (seII (clmE ⟨o,p,x⟩ w c) x)) (.cons (.roI (seI (clmE ⟨o,p,x⟩ w c) w)) (.cons (.roI (seI (clmE ⟨o,p,x⟩ w c) c)) .nil)))))) (.cons (.int .i64 (clmE ⟨o,p,x⟩ w c)) .nil)),none⟩
 |_=>none
theorem Zli {e e':Int} {o p w c:List Int} {x:List (List Int)} (h:e=e') (h2:e'≠0):Imp (.tup (.cons (.agg (.cons (.cst (.slice none 0 0)) (.cons (.cst (.slice none 0 0)) (.cons (.cst (.slice none 0 0)) (.cons (.cst (.slice none 0 0)) (.cons (.cst (.slice none 0 0)) .nil)))))) (.cons (.int .i64 e') .nil)))
  (.tup (.cons (.agg (.cons (.roI (seI e o)) (.cons (.roI (seI e p)) (.cons (.roII (seII e x)) (.cons (.roI (seI e w)) (.cons (.roI (seI e c)) .nil)))))) (.cons (.int .i64 e) .nil))):=by
 subst h
 have e1:∀ l,seI e l=[]:=fun l=>if_neg h2
 have e2:∀ l,seII e l=[]:=fun l=>if_neg h2
 rw [e1,e1,e1,e1,e2]
 exact Zf3 (Zay (Zel (Zay Zbr (Zay Zbr (Zay Zjv (Zay Zbr (Zay Zbr (Zal rfl))))))) (Zal rfl))
noncomputable def spCoV : Nat→Option Spec
 |13=>some validS
 |27=>some containsS
 |_=>none
theorem Zbp : SpOK Tryz.prog spCoV:=by
 intro f S h
 unfold spCoV at h
 split at h
 ·cases h;exact Zgo
 ·cases h;exact Zhe
 ·cases h
def Zbm := Hd.mk (And.intro @spCoV.eq_1<|And.intro @spCoV.eq_2<|And.intro @validS.eq_1<|@containsS.eq_1)
set_option maxRecDepth 4000 in
set_option maxHeartbeats 4000000 in
theorem claimOf_ok : Zcn Tryz.prog 21 clmS:=by
 refine Zaw htb (fn:=Tryz.f21) (by kernel_rfl) (by kernel_rfl) rfl (fun args r hS=>?_) (fun args r hS hob hl=>?_)
 ·unfold clmS at hS;split at hS<;>first|(cases hS;done)|(cases hS;exact Nat.le_of_ble_eq_true rfl)
 unfold clmS at hS
 split at hS
 case h_2=>cases hS
 rename_i o p x w c
 simp only [Option.some.injEq] at hS
 subst hS
 simp only [lenP,mkL,lim] at hl
 dsimp only at hob
 repeat' first|exact gE|refine gS Zbp Zbm [2,3] ?_|refine gO Zbp Zbm [2,3] ?_ ?_|refine gC ?_ ?_<;>intro hb
 ·repeat' first|exact gE|refine gS Zbp Zbm [] ?_|refine gO Zbp Zbm [] ?_ ?_|refine gC ?_ ?_<;>intro hb
  refine Zab rfl rfl (Ze1 rfl ?_ rfl)
  exact Zli (clm_1 hb) (by decide)
 have hv:Zau ⟨o,p,x⟩=true:=by cases h:Zau ⟨o,p,x⟩ with|true=>rfl|false=>rw [h] at hb;simp at hb
 clear hb
 have hG:=gok (validB_iff.1 hv)
 have hxl:x.length=o.length:=hG.xl
 have hn:o.length≤20000:=hG.n
 have hno:∀ v,v < o.length→¬ ((w.getD v 0=0∨w.getD v 0=1)∧(o.getD v 0=w.getD v 0→c.getD v 0∈x.getD v [])∧(o.getD v 0≠w.getD v 0→c.getD v 0 = -1))→clmE ⟨o,p,x⟩ w c=4:=fun v hv2 h=>Zo3 hv (decide_eq_false fun h2=>h (h2.2.2 v hv2))
 repeat' first|exact gE|refine gS Zbp Zbm [4,5] ?_|refine gO Zbp Zbm [4,5] ?_ ?_|refine gC ?_ ?_<;>intro hb
 ·have hcb:clmE ⟨o,p,x⟩ w c=4:=Zo3 hv (decide_eq_false fun h=>by
   have h1:w.length=o.length:=h.1
   have h2:c.length=o.length:=h.2.1
   omega)
  repeat' first|exact gE|refine gS Zbp Zbm [] ?_|refine gO Zbp Zbm [] ?_ ?_|refine gC ?_ ?_<;>intro hb
  refine Zab rfl rfl (Ze1 rfl ?_ rfl)
  exact Zli hcb (by decide)
 have hwl:w.length=o.length:=by omega
 have hcl:c.length=o.length:=by omega
 clear hb
 have hrl:∀ v,v < o.length→(x.getD v []).length≤64:=fun v h=>(hG.len v h).2
 repeat' first|exact gE|refine gS Zbp Zbm [] ?_|refine gO Zbp Zbm [] ?_ ?_|refine gC ?_ ?_<;>intro hb
 refine Zag (τ:=Nat) (fun i=>i≤o.length∧∀ v,v < i→(w.getD v 0=0∨w.getD v 0=1)∧(o.getD v 0=w.getD v 0→c.getD v 0∈x.getD v [])∧(o.getD v 0≠w.getD v 0→c.getD v 0 = -1)) (fun i=>⟨27,[(32,.int .i64 i),(31,.int .i64 w.length),(30,.roI w),(5,.int .i64 0),(4,.own 2),(3,.rop (.agg (.cons (.roI w) (.cons (.roI c) .nil)))),(2,(.rop (.agg (.cons (.roI o) (.cons (.roI p) (.cons (.roII x) .nil))))))],[(2,some (.box (.agg (.cons (.cst (.slice none 0 0)) (.cons (.cst (.slice none 0 0)) (.cons (.cst (.slice none 0 0)) (.cons (.cst (.slice none 0 0)) (.cons (.cst (.slice none 0 0)) .nil))))))))],[]⟩) (fun i=>o.length - i) 0 [] ?_ ⟨Nat.zero_le _,fun v hv=>absurd hv (Nat.not_lt_zero v)⟩ ?_
 ·first|exact leZ Zbm|refine leA Zbm ?_|refine leB Zbm ?_ ?_
 rintro i ⟨hi,hk⟩
 have hno1:=hno i
 have hrl1:=hrl i
 clear hno hrl
 repeat' first|exact gE|refine gS Zbp Zbm [9,10] ?_|refine gO Zbp Zbm [9,10] ?_ ?_|refine gC ?_ ?_<;>intro hb
 ·repeat' first|exact gE|refine gS Zbp Zbm [] ?_|refine gO Zbp Zbm [] ?_ ?_|refine gC ?_ ?_<;>intro hb
  refine Zab rfl rfl (Ze1 rfl ?_ rfl)
  exact Zli (hno1 (by omega) fun h=>by omega) (by decide)
 ·refine gRa Zbp Zbm (fun _=>false) ?_ ?_
  ·first|exact oA|skip
  repeat' first|exact gE|refine gS Zbp Zbm [11,12] ?_|refine gO Zbp Zbm [11,12] ?_ ?_|refine gC ?_ ?_<;>intro hb
  ·rename_i hb1
   repeat' first|exact gE|refine gS Zbp Zbm [] ?_|refine gO Zbp Zbm [] ?_ ?_|refine gC ?_ ?_<;>intro hb
   refine Zab rfl rfl (Ze1 rfl ?_ rfl)
   refine Zli (hno1 (by omega) fun h=>?_) (by decide)
   rcases hb with ⟨h1,h2⟩|⟨h1,h2⟩
   ·exact h2 (h.2.1 h1.symm)
   ·exact h2 (h.2.2 fun h3=>h1 h3.symm)
  ·rename_i hb1
   repeat' first|exact gE|refine gS Zbp Zbm [] ?_|refine gO Zbp Zbm [] ?_ ?_|refine gC ?_ ?_<;>intro hb
   refine back (i+1) [] ?_ ⟨by omega,fun v hv=>?_⟩ (by omega)
   ·first|exact leZ Zbm|refine leA Zbm ?_|refine leB Zbm ?_ ?_
   ·rcases Nat.lt_succ_iff_lt_or_eq.1 hv with h|rfl
    ·exact hk v h
    ·refine ⟨hb1,fun h=>?_,fun h=>?_⟩
     ·exact hb.1.resolve_left (fun h2=>h2 h.symm)
     ·exact hb.2.resolve_left fun h2=>h h2.symm
 have hie:i=o.length:=by omega
 subst hie
 have hcb:clmE ⟨o,p,x⟩ w c=0:=clm_0 hv (decide_eq_true ⟨hwl,hcl,hk⟩)
 repeat' first|exact gE|refine gS Zbp Zbm [] ?_|refine gO Zbp Zbm [] ?_ ?_|refine gC ?_ ?_<;>intro hb
 refine Zab rfl rfl (Zae rfl ?_ rfl)
 rw [hcb]
 rfl
def nvF (o w c:List Int) (x:List (List Int)) (q:Int) (v:Nat):List Int:=if o.getD v 0=q∧w.getD v 0=q then [c.getD v 0] else x.getD v []
def nvS : Spec
 |[.agg (.cons (.roI o) (.cons (.roI p) (.cons (.roII x) (.cons (.roI w) (.cons (.roI c) .nil))))),.int .i64 v,.int .i64 q]=>some ⟨(0≤v∧v < o.length)∧x.length=o.length∧w.length=o.length∧c.length=o.length,.roI (nvF o w c x q v.toNat),none⟩
 |_=>none
set_option maxRecDepth 4000 in
set_option maxHeartbeats 4000000 in
theorem Zon : Zcn Tryz.prog 28 nvS:=by
 refine Zaw htb (fn:=Tryz.f28) (by kernel_rfl) (by kernel_rfl) rfl (fun args r hS=>?_) (fun args r hS hob hl=>?_)
 ·unfold nvS at hS;split at hS<;>first|(cases hS;done)|(cases hS;exact Nat.le_of_ble_eq_true rfl)
 unfold nvS at hS
 split at hS
 case h_2=>cases hS
 rename_i o p x w c v q
 simp only [Option.some.injEq] at hS
 subst hS
 simp only [lenP,mkL,lim] at hl
 dsimp only at hob
 obtain ⟨⟨h0,h1⟩,h2,h3,h4⟩:=hob
 obtain ⟨u,rfl⟩:=Int.eq_ofNat_of_zero_le h0
 rw [Int.toNat_natCast]
 have e:nvF o w c x q u=if o.getD u 0=q∧w.getD u 0=q then [c.getD u 0] else x.getD u []:=rfl
 repeat' first|exact gE|refine gS noSp x0 [2,3] ?_|refine gO noSp x0 [2,3] ?_ ?_|refine gC ?_ ?_<;>intro hb
 ·repeat' first|exact gE|refine gS noSp x0 [] ?_|refine gO noSp x0 [] ?_ ?_|refine gC ?_ ?_<;>intro hb
  refine Zab rfl rfl (Zae rfl ?_ rfl)
  rw [e,if_pos hb]
  rfl
 ·repeat' first|exact gE|refine gS noSp x0 [] ?_|refine gO noSp x0 [] ?_ ?_|refine gC ?_ ?_<;>intro hb
  refine Zab rfl rfl (Zae rfl ?_ rfl)
  rw [e,if_neg (by omega)]
  rfl
open Go
theorem Zh0 {k:Int}:∀ {es:List (Int × Int × Nat)} {i:Nat},fnd k es (i+1)=(fnd k es i).map fun p=>(p.1+1,p.2)
 |[],_=>rfl
 |e :: t,i=>by
  unfold fnd
  split
  ·rfl
  ·exact Zh0
theorem Zgh {k:Int} {e:Int × Int × Nat} {t:List (Int × Int × Nat)}:mget k (e :: t)=if k=e.1 then e.2.1 else mget k t:=by
 unfold mget
 rw [fnd]
 by_cases h:k=e.1
 ·rw [if_pos h,if_pos h]
 ·rw [if_neg h,if_neg h,Zh0]
  cases fnd k t 0<;>rfl
theorem mput_cons {k v:Int} {c:Nat} {e:Int × Int × Nat} {t:List (Int × Int × Nat)}:mput k v c (e :: t)=if k=e.1 then (k,v,e.2.2) :: t else e :: mput k v c t:=by
 unfold mput
 rw [fnd]
 by_cases h:k=e.1
 ·rw [if_pos h,if_pos h];rfl
 ·rw [if_neg h,if_neg h,Zh0]
  cases fnd k t 0<;>rfl
theorem mget_mput {k k' v:Int} {c:Nat}:∀ {es:List (Int × Int × Nat)},mget k (mput k' v c es)=if k=k' then v else mget k es
 |[]=>by
  have:mput k' v c []=[(k',v,c)]:=rfl
  rw [this,Zgh]
 |e :: t=>by
  rw [mput_cons]
  by_cases h:k'=e.1
  ·rw [if_pos h,Zgh,Zgh]
   dsimp only
   rw [←h]
   split<;>rfl
  ·rw [if_neg h,Zgh,Zgh,mget_mput (es:=t)]
   by_cases h2:k=e.1
   ·rw [if_pos h2,if_pos h2,if_neg (fun e2:k=k'=>h (by rw [←e2];exact h2))]
   ·rw [if_neg h2,if_neg h2]
theorem Zgg {k:Int} {e:Int × Int × Nat} {t:List (Int × Int × Nat)}:mhas k (e :: t)=if k=e.1 then true else mhas k t:=by
 unfold mhas
 rw [fnd]
 by_cases h:k=e.1
 ·rw [if_pos h,if_pos h]
 ·rw [if_neg h,if_neg h,Zh0]
  cases fnd k t 0<;>rfl
theorem mhas_mput {k k' v:Int} {c:Nat}:∀ {es:List (Int × Int × Nat)},mhas k (mput k' v c es)=if k=k' then true else mhas k es
 |[]=>by
  have:mput k' v c []=[(k',v,c)]:=rfl
  rw [this,Zgg]
 |e :: t=>by
  rw [mput_cons]
  by_cases h:k'=e.1
  ·rw [if_pos h,Zgg,Zgg]
   dsimp only
   rw [←h]
   split<;>rfl
  ·rw [if_neg h,Zgg,Zgg,mhas_mput (es:=t)]
   by_cases h2:k=e.1
   ·rw [if_pos h2,if_pos h2]
    split<;>rfl
   ·rw [if_neg h2,if_neg h2]
open Go Pl
def joiS : Spec
 |[.roII l]=>some ⟨l.flatten.length≤100000,.roI l.flatten,none⟩
 |_=>none
theorem flat_take_le {l:List (List Int)} (i:Nat):(l.take i).flatten.length≤l.flatten.length:=by
 conv=>rhs;rw [←List.take_append_drop i l]
 rw [List.flatten_append,List.length_append]
 omega
theorem flat_take_s {l:List (List Int)} {i:Nat} (h:i < l.length):(l.take (i+1)).flatten=(l.take i).flatten++l.getD i []:=by
 rw [List.take_add_one,List.flatten_append,List.getElem?_eq_getElem h]
 simp [List.getD_eq_getElem?_getD,List.getElem?_eq_getElem h]
set_option maxRecDepth 4000 in
set_option maxHeartbeats 4000000 in
theorem Zhx : Zcn Tryz.prog 25 joiS:=by
 refine Zaw htb (fn:=Tryz.f25) (by kernel_rfl) (by kernel_rfl) rfl (fun args r hS=>?_) (fun args r hS hob hl=>?_)
 ·unfold joiS at hS;split at hS<;>first|(cases hS;done)|(cases hS;exact Nat.le_of_ble_eq_true rfl)
 unfold joiS at hS
 split at hS
 case h_2=>cases hS
 rename_i l
 simp only [Option.some.injEq] at hS
 subst hS
 simp only [lenP,mkL,lim] at hl
 dsimp only at hob
 repeat' first|exact gE|refine gS noSp x0 [1] ?_|refine gO noSp x0 [1] ?_ ?_|refine gC ?_ ?_<;>intro hb
 refine gRa noSp x0 (fun _=>true) ?_ ?_
 repeat' first|exact gE|refine gS noSp x0 [] ?_|refine gO noSp x0 [] ?_ ?_|refine gC ?_ ?_<;>intro hb
 refine Zag (τ:=Nat) (fun i=>i≤l.length) (fun i=>⟨3,[(9,.int .i64 i),(8,.int .i64 l.length),(7,.roII l),(3,.own 1),(2,.cst (.slice none 0 0))],[(1,some (.ints (l.take i).flatten))],[]⟩) (fun i=>l.length - i) 0 [] ?_ (Nat.zero_le _) ?_
 ·first|exact leZ x0|refine leA x0 ?_|refine leB x0 ?_ ?_
  rfl
 intro i hi
 have hle:i < l.length→(l.take i).flatten.length+(l.getD i []).length≤100000:=fun h=>by
  have h1:=flat_take_le (l:=l) (i+1)
  rw [flat_take_s h,List.length_append] at h1
  omega
 repeat' first|exact gE|refine gS noSp x0 [7] ?_|refine gO noSp x0 [7] ?_ ?_|refine gC ?_ ?_<;>intro hb
 ·refine back (i+1) [(1,9)] ?_ (by omega) (by omega)
  first|exact leZ x0|refine leA x0 ?_|refine leB x0 ?_ ?_
  rw [flat_take_s (by omega)]
 have hie:i=l.length:=by omega
 subst hie
 rw [List.take_length]
 refine Zbb 1 (.roI l.flatten) ?_
 repeat' first|exact gE|refine gS noSp x0 [] ?_|refine gO noSp x0 [] ?_ ?_|refine gC ?_ ?_<;>intro hb
 refine Zab rfl rfl (Zae rfl ?_ rfl)
 rfl
def onN (o w c:List Int) (x:List (List Int)) (q:Int) (v:Nat):Nat:=((nvF o w c x q v).getD 0 0).toNat
def orL (F:Nat→Nat) (v k:Nat):List Int:=(List.range k).map fun j=>(orb F v j:Int)
theorem orL_len {F:Nat→Nat} {v k:Nat}:(orL F v k).length=k:=by simp [orL]
theorem orL_s {F:Nat→Nat} {v k:Nat}:orL F v (k+1)=orL F v k++[(orb F v k:Int)]:=by unfold orL;rw [List.range_succ,List.map_append];rfl
noncomputable def agA (F:Nat→Nat) (v:Nat):Nat × Nat:=open Classical in if h:∃ p:Nat × Nat,Zl8 F v p.1 p.2 then Classical.choose h else (0,0)
theorem agA_eq {F:Nat→Nat} {v L k:Nat} (h:Zl8 F v L k):agA F v=(L,k):=by
 unfold agA
 have hex:∃ p:Nat × Nat,Zl8 F v p.1 p.2:=⟨(L,k),h⟩
 rw [dif_pos hex]
 have:=again_unique (Classical.choose_spec hex) h
 exact Prod.ext this.1 this.2
noncomputable def onS1 (F:Nat→Nat) (v:Nat):List Int:=(orL F v (agA F v).1).take (agA F v).2
noncomputable def onL1 (F:Nat→Nat) (v:Nat):List Int:=(orL F v (agA F v).1).drop (agA F v).2
noncomputable def onS : Spec
 |[.agg (.cons (.roI o) (.cons (.roI p) (.cons (.roII x) (.cons (.roI w) (.cons (.roI c) .nil))))),.int .i64 v,.int .i64 q]=>some ⟨(0≤v∧v < o.length)∧x.length=o.length∧w.length=o.length∧c.length=o.length∧o.length≤20000∧(∀ u,u < o.length→0 < (nvF o w c x q u).length∧0≤(nvF o w c x q u).getD 0 0∧(nvF o w c x q u).getD 0 0 < o.length),.agg (.cons (.roI (onS1 (onN o w c x q) v.toNat)) (.cons (.roI (onL1 (onN o w c x q) v.toNat)) .nil)),none⟩
 |_=>none
structure OnS where
 k:Nat
 es:List (Int × Int × Nat)
 clk:Nat
structure OnI (F:Nat→Nat) (v:Nat) (s:OnS):Prop where
 fr:Znp F v s.k
 mp:∀ u:Nat,(mhas (u:Int) s.es=true↔∃ j,j < s.k∧orb F v j=u)
 mg:∀ j,j < s.k→mget (orb F v j:Int) s.es=j
theorem OnI_nil {F:Nat→Nat} {v clk:Nat}:OnI F v ⟨0,[],clk⟩:=⟨fun i j _ h=>absurd h (Nat.not_lt_zero j),fun u=>⟨fun h=>(by cases h),fun ⟨j,h,_⟩=>absurd h (Nat.not_lt_zero j)⟩,fun j h=>absurd h (Nat.not_lt_zero j)⟩
theorem OnI_put {F:Nat→Nat} {v k clk clk' c:Nat} {es:List (Int × Int × Nat)} (h:OnI F v ⟨k,es,clk⟩) (hh:mhas (orb F v k:Int) es≠true):OnI F v ⟨k+1,mput (orb F v k:Int) k c es,clk'⟩:=by
 have hne:∀ j,j < k→orb F v j≠orb F v k:=fun j hj e=>hh ((h.mp _).2 ⟨j,hj,e⟩)
 refine ⟨fresh_succ h.fr hne,fun u=>?_,fun j hj=>?_⟩
 ·show mhas _ (mput _ _ _ _)=true↔_
  rw [mhas_mput]
  by_cases e:(u:Int)=orb F v k
  ·rw [if_pos e]
   exact ⟨fun _=>⟨k,Nat.lt_succ_self k,by omega⟩,fun _=>rfl⟩
  ·rw [if_neg e]
   refine (h.mp u).trans ⟨fun ⟨j,hj,e2⟩=>⟨j,Nat.lt_succ_of_lt hj,e2⟩,fun ⟨j,hj,e2⟩=>⟨j,?_,e2⟩⟩
   rcases Nat.lt_succ_iff_lt_or_eq.1 hj with hj|rfl
   ·exact hj
   ·exact absurd (congrArg Nat.cast e2.symm) e
 ·show mget _ (mput _ _ _ _)=_
  rw [mget_mput]
  rcases Nat.lt_succ_iff_lt_or_eq.1 hj with hj|rfl
  ·rw [if_neg (fun e=>hne j hj (by omega))]
   exact h.mg j hj
  ·rw [if_pos rfl]
noncomputable def spOn : Nat→Option Spec
 |28=>some nvS
 |25=>some joiS
 |_=>none
theorem Zfw : SpOK Tryz.prog spOn:=by
 intro f S h
 unfold spOn at h
 split at h
 ·cases h;exact Zon
 ·cases h;exact Zhx
 ·cases h
def Zdk := Hd.mk (And.intro @spOn.eq_1<|And.intro @spOn.eq_2<|And.intro @nvS.eq_1<|@joiS.eq_1)
set_option maxRecDepth 4000 in
set_option maxHeartbeats 4000000 in
theorem on_ok : Zcn Tryz.prog 70 onS:=by
 refine Zaw htb (fn:=Tryz.f70) (by kernel_rfl) (by kernel_rfl) rfl (fun args r hS=>?_) (fun args r hS hob hl=>?_)
 ·unfold onS at hS;split at hS<;>first|(cases hS;done)|(cases hS;exact Nat.le_of_ble_eq_true rfl)
 unfold onS at hS
 split at hS
 case h_2=>cases hS
 rename_i o p x w c v q
 simp only [Option.some.injEq] at hS
 subst hS
 simp only [lenP,mkL,lim] at hl
 dsimp only at hob
 obtain ⟨⟨h0,h1⟩,h2,h3,h4,hn,hnx⟩:=hob
 obtain ⟨u,rfl⟩:=Int.eq_ofNat_of_zero_le h0
 rw [Int.toNat_natCast]
 have horb:∀ j,orb (onN o w c x q) u j < o.length:=fun j=>by
  induction j with
  |zero=>show u < _;omega
  |succ j ih=>show ((nvF o w c x q (orb (onN o w c x q) u j)).getD 0 0).toNat < _;have:=hnx _ ih;omega
 have hstep:∀ j,(nvF o w c x q (orb (onN o w c x q) u j)).getD 0 0=(orb (onN o w c x q) u (j+1):Nat)∧0 < (nvF o w c x q (orb (onN o w c x q) u j)).length:=fun j=>by
  have h:=hnx _ (horb j)
  exact ⟨(Int.toNat_of_nonneg h.2.1).symm,h.1⟩
 repeat' first|exact gE|refine gS Zfw Zdk [] ?_|refine gO Zfw Zdk [] ?_ ?_|refine gC ?_ ?_<;>intro hb
 refine awp_nilown 8 (.ints []) (by simp only [zE,evp,evx,ev1,evLoad,evStore,evBin,evIf,Zac,forall_const,z38,tb,reduceAdd,reduceSub,reduceMul,reduceEqDiff,reduceLeDiff,reduceLT,Nat.reduceBEq,Nat.reduceBNe,↓reduceIte,reduceIte,spOn,nvS,joiS]) (.inl rfl) rfl ?_
 obtain ⟨F,hF⟩:∃ F,onN o w c x q=F:=⟨_,rfl⟩
 simp only [hF] at horb hstep ⊢
 refine Zag (τ:=OnS) (fun s=>OnI F u s) (fun s=>⟨6,[(8,.own 5),(7,.own 2),(6,.own 1),(3,(.rop (.agg (.cons (.roI o) (.cons (.roI p) (.cons (.roII x) (.cons (.roI w) (.cons (.roI c) .nil)))))))),(1,.int .i64 (orb F u s.k)),(2,.int .i64 q)],[(1,some (.box (.agg (.cons (.cst (.slice none 0 0)) (.cons (.cst (.slice none 0 0)) .nil))))),(2,some (.mp s.es s.clk)),(5,some (.ints (orL F u s.k)))],[]⟩) (fun s=>o.length - s.k) ⟨0,[],0⟩ [] ?_ OnI_nil ?_
 ·first|exact leZ Zdk|refine leA Zdk ?_|refine leB Zdk ?_ ?_
  all_goals rfl
 rintro ⟨k,es,clk⟩ hI
 dsimp only at hI ⊢
 have hkn:k≤o.length:=Zla horb hI.fr
 have hhas:mhas (orb F u k:Int) es=true↔∃ j,j < k∧orb F u j=orb F u k:=hI.mp (orb F u k)
 have hok:=horb k
 have hst:=hstep k
 have hol:(orL F u k).length=k:=orL_len
 repeat' first|exact gE|refine gS Zfw Zdk [5,6] ?_|refine gO Zfw Zdk [5,6] ?_ ?_|refine gC ?_ ?_<;>intro hb
 ·obtain ⟨j,hj,e⟩:=hhas.1 hb
  have hmg:mget (orb F u j:Int) es=j:=hI.mg j hj
  rw [e] at hmg
  rw [hmg]
  have hag:Zl8 F u k j:=⟨hI.fr,hj,e.symm⟩
  have ha:=agA_eq hag
  refine Zbb 5 (.roI (orL F u k)) ?_
  have hl1:[(orL F u k).take j].flatten.length≤100000:=by
   simp only [List.flatten_cons,List.flatten_nil,List.append_nil,List.length_take];omega
  have hl2:[(orL F u k).drop j].flatten.length≤100000:=by
   have hd:((orL F u k).drop j).length=(orL F u k).length - j:=List.length_drop ..
   rw [List.flatten_cons,List.flatten_nil,List.append_nil,hd,hol];omega
  have hda:(orL F u k).length=k:=orL_len
  refine gRa Zfw Zdk (fun _=>false) ?_ ?_
  ·exact ⟨⟨⟨⟨Int.le_refl _,by omega,by omega⟩,hl1⟩,by omega⟩,hl2⟩
  repeat' first|exact gE|refine gS Zfw Zdk [] ?_|refine gO Zfw Zdk [] ?_ ?_|refine gC ?_ ?_<;>intro hb
  refine Zab rfl rfl (Zae rfl ?_ rfl)
  show AV.agg _=AV.agg _
  unfold onS1 onL1
  rw [ha]
  simp only [List.flatten_cons,List.flatten_nil,List.append_nil]
  rfl
 ·have hh:mhas (orb F u k:Int) es≠true:=by rw [hb];decide
  have hol2:(orL F u k).length≤999999999999:=by omega
  repeat' first|exact gE|refine gS Zfw Zdk [] ?_|refine gO Zfw Zdk [] ?_ ?_|refine gC ?_ ?_<;>intro hb
  have hI2:=OnI_put (clk':=mclk (orb F u k:Int) clk es) (c:=clk) hI hh
  have hk1:k+1≤o.length:=Zla horb hI2.fr
  refine back ⟨k+1,_,_⟩ [(5,23)] ?_ hI2 (by dsimp only;omega)
  first|exact leZ Zdk|refine leA Zdk ?_|refine leB Zdk ?_ ?_
  ·exact hst.1.symm
  ·exact ⟨by rw [hol],orL_s.symm⟩
open Go Pl
def aftP (l loop:List Int) (i:Int):Int:=if i+1 < l.length then l.getD (i+1).toNat 0 else loop.getD 0 0
def isP (g:Gm) (s lp:List Int):Bool:=decide (lp≠[]∧(∀ i,i < (s++lp).length→0≤(s++lp).getD i 0∧(s++lp).getD i 0 < (g.own.length:Int))∧∀ i,i < (s++lp).length→aftP (s++lp) lp i∈g.nxt.getD ((s++lp).getD i 0).toNat [])
theorem foldl_max0 {f:Int→Int}:∀ {l:List Int} {a:Int},0≤a→0≤l.foldl (fun a v=>max a (f v)) a
 |[],a,h=>h
 |v :: l,a,h=>foldl_max0 (l:=l) (by show 0≤max a (f v);omega)
def wonP (g:Gm) (lp:List Int):Int:=(lp.foldl (fun a v=>max a (g.pri.getD v.toNat 0)) 0) % 2
def wonS : Spec
 |[.agg (.cons (.roI o) (.cons (.roI p) (.cons (.roII x) .nil))),.agg (.cons (.roI s) (.cons (.roI lp) .nil))]=>some ⟨∀ i,i < lp.length→0≤lp.getD i 0∧lp.getD i 0 < (p.length:Int),.int .i64 (wonP ⟨o,p,x⟩ lp),none⟩
 |_=>none
section
open Go Pl
theorem ring_cyc {E:Nat→Nat→Prop} {f:Nat→Nat} {m:Nat} (hm:0 < m) (h:∀ k,k+1 < m→E (f k) (f (k+1))) (hl:E (f (m - 1)) (f 0)) {k:Nat} (hk:k < m):∃ t,E (f k) t∧Rch E t (f k):=by
 have up:∀ (d a:Nat),a+d < m→Rch E (f a) (f (a+d)):=by
  intro d
  induction d with
  |zero=>intro a _;exact .refl _
  |succ d ih=>intro a ha;exact .step (ih a (by omega)) (h (a+d) (by omega))
 by_cases h1:k+1 < m
 ·refine ⟨f (k+1),h k h1,?_⟩
  have r1:=up (m - 1 - (k+1)) (k+1) (by omega)
  rw [show k+1+(m - 1 - (k+1))=m - 1 by omega] at r1
  have r2:=up k 0 (by omega)
  rw [Nat.zero_add] at r2
  exact (Rch.step r1 hl).trans r2
 ·have e:k=m - 1:=by omega
  subst e
  refine ⟨f 0,hl,?_⟩
  have r2:=up (m - 1) 0 (by omega)
  rw [Nat.zero_add] at r2
  exact r2
theorem Zjw {f:Int→Int}:∀ {l:List Int} {a:Int},(∀ v,v∈l→f v≤l.foldl (fun a v=>max a (f v)) a)∧a≤l.foldl (fun a v=>max a (f v)) a∧(l.foldl (fun a v=>max a (f v)) a=a∨∃ v,v∈l∧f v=l.foldl (fun a v=>max a (f v)) a)
 |[],a=>⟨fun v h=>(by cases h),Int.le_refl _,.inl rfl⟩
 |b :: l,a=>by
  obtain ⟨h1,h2,h3⟩:=Zjw (f:=f) (l:=l) (a:=max a (f b))
  rw [List.foldl_cons]
  refine ⟨fun v hv=>?_,by omega,?_⟩
  ·rcases List.mem_cons.1 hv with rfl|hv
   ·omega
   ·exact h1 v hv
  ·rcases h3 with h3|⟨v,hv,e⟩
   ·rcases Int.le_total a (f b) with h4|h4
    ·exact .inr ⟨b,List.mem_cons_self,by rw [h3];omega⟩
    ·exact .inl (by rw [h3];omega)
   ·exact .inr ⟨v,List.mem_cons_of_mem _ hv,e⟩
def psP (L:List Int) (i:Nat):Nat:=(L.getD i 0).toNat
def folP (g:Gm) (W C s l:List Int) (w:Int):Prop:=∀ i:Nat,i < (s++l).length→g.own.getD (psP (s++l) i) 0=w∧W.getD (psP (s++l) i) 0=w→aftP (s++l) l i=C.getD (psP (s++l) i) 0
open Classical in
noncomputable def Zee (g:Gm) (W C s l:List Int):Bool:=decide (folP g W C s l (W.getD (psP (s++l) 0) 0)∧((∃ i,i < (s++l).length∧W.getD (psP (s++l) i) 0≠W.getD (psP (s++l) 0) 0)∨wonP g l≠W.getD (psP (s++l) 0) 0))
variable {g:Gm} {W C s l:List Int}
open Classical in
theorem against_iff : Zee g W C s l=true↔(folP g W C s l (W.getD (psP (s++l) 0) 0)∧((∃ i,i < (s++l).length∧W.getD (psP (s++l) i) 0≠W.getD (psP (s++l) 0) 0)∨wonP g l≠W.getD (psP (s++l) 0) 0)):=by
 unfold Zee
 exact decide_eq_true_iff
theorem isP_iff : isP g s l=true↔l≠[]∧(∀ i,i < (s++l).length→0≤(s++l).getD i 0∧(s++l).getD i 0 < (g.own.length:Int))∧∀ i:Nat,i < (s++l).length→aftP (s++l) l i∈g.nxt.getD (psP (s++l) i) []:=by
 unfold isP
 exact decide_eq_true_iff
theorem fol_win (hv:Zau g=true) {w:Int} {c:Nat→Nat} (hS:Sol (fun v=>g.own.getD v 0) (fun v=>g.pri.getD v 0) (rws g.nxt) (fun v=>v < g.own.length) (fun v=>W.getD v 0) c w) (hw:w=0∨w=1) (hi:isP g s l=true) (h0:W.getD (psP (s++l) 0) 0=w)
  (hf:∀ i:Nat,i < (s++l).length→g.own.getD (psP (s++l) i) 0=w→W.getD (psP (s++l) i) 0=w→(aftP (s++l) l i).toNat=c (psP (s++l) i)):(∀ i,i < (s++l).length→W.getD (psP (s++l) i) 0=w)∧wonP g l=w:=by
 have hG:=gok (validB_iff.1 hv)
 obtain ⟨hl,hb,hn⟩:=isP_iff.1 hi
 have hl0:0 < l.length:=List.length_pos_iff.2 hl
 have hal:(s++l).length=s.length+l.length:=List.length_append ..
 have hpb:∀ i,i < (s++l).length→psP (s++l) i < g.own.length:=fun i hi=>by
  have:=hb i hi
  show ((s++l).getD i 0).toNat < _
  omega
 have hE:∀ i,i < (s++l).length→W.getD (psP (s++l) i) 0=w→Stp (fun v=>g.own.getD v 0) (rws g.nxt) (fun v=>v < g.own.length) (fun v=>W.getD v 0) c w (psP (s++l) i) (aftP (s++l) l i).toNat∧W.getD (aftP (s++l) l i).toNat 0=w:=fun i hil hwi=>by
  have hm:(aftP (s++l) l i).toNat∈rws g.nxt (psP (s++l) i):=List.mem_map.2 ⟨_,hn i hil,rfl⟩
  have htn:=hG.row _ (hpb i hil) _ hm
  by_cases ho:g.own.getD (psP (s++l) i) 0=w
  ·have e:=hf i hil ho hwi
   obtain ⟨_,_,m3⟩:=hS.mine _ (hpb i hil) hwi ho
   exact ⟨⟨⟨hpb i hil,hwi⟩,htn,fun _=>e,fun h=>absurd ho h⟩,by rw [e];exact m3⟩
  ·exact ⟨⟨⟨hpb i hil,hwi⟩,htn,fun h=>absurd h ho,fun _=>hm⟩,hS.his _ (hpb i hil) hwi ho _ hm htn⟩
 have haf:∀ i,i+1 < (s++l).length→(aftP (s++l) l i).toNat=psP (s++l) (i+1):=fun i h=>by
  unfold aftP psP
  rw [if_pos (by omega),show ((i:Int)+1).toNat=i+1 by omega]
 have hlast:(aftP (s++l) l ((s++l).length - 1:Nat)).toNat=psP (s++l) s.length:=by
  unfold aftP psP
  rw [if_neg (by omega)]
  congr 1
  simp only [List.getD_eq_getElem?_getD]
  rw [List.getElem?_append_right (Nat.le_refl _),Nat.sub_self]
 have hall:∀ i,i < (s++l).length→W.getD (psP (s++l) i) 0=w:=by
  intro i
  induction i with
  |zero=>intro _;exact h0
  |succ i ih =>
   intro hi2
   have:=(hE i (by omega) (ih (by omega))).2
   rw [haf i hi2] at this
   exact this
 refine ⟨hall,Classical.byContradiction fun hne=>?_⟩
 obtain ⟨m1,m2,m3⟩:=Zjw (f:=fun v=>g.pri.getD v.toNat 0) (l:=l) (a:=0)
 have hlp:∀ k,k < l.length→(s++l).getD (s.length+k) 0=l.getD k 0:=fun k hk=>by
  simp only [List.getD_eq_getElem?_getD]
  rw [List.getElem?_append_right (by omega),show s.length+k - s.length=k by omega]
 have hle:∀ k,k < l.length→g.pri.getD (psP (s++l) (s.length+k)) 0≤l.foldl (fun a v=>max a (g.pri.getD v.toNat 0)) 0:=fun k hk=>by
  show g.pri.getD ((s++l).getD (s.length+k) 0).toNat 0≤_
  rw [hlp k hk]
  refine m1 _ ?_
  rw [List.getD_eq_getElem?_getD,List.getElem?_eq_getElem hk];exact List.getElem_mem ..
 obtain ⟨k,hk,hke⟩:∃ k,k < l.length∧g.pri.getD (psP (s++l) (s.length+k)) 0=l.foldl (fun a v=>max a (g.pri.getD v.toNat 0)) 0:=by
  rcases m3 with e|⟨v,hvm,e⟩
  ·refine ⟨0,hl0,Int.le_antisymm (hle 0 hl0) ?_⟩
   rw [e]
   exact (hG.pri _ (hpb _ (by omega))).1
  ·obtain ⟨j,hj,rfl⟩:=Zdv hvm
   refine ⟨j,hj,?_⟩
   show g.pri.getD ((s++l).getD (s.length+j) 0).toNat 0=_
   rw [hlp j hj];exact e
 have hcy:Cyc (Stp (fun v=>g.own.getD v 0) (rws g.nxt) (fun v=>v < g.own.length) (fun v=>W.getD v 0) c w) (fun v=>g.pri.getD v 0) (psP (s++l) (s.length+k)):=by
  refine ring_cyc (f:=fun k=>psP (s++l) (s.length+k)) (m:=l.length) hl0 (fun j hj=>?_) ?_ hk
  ·have:=(hE (s.length+j) (by omega) (hall _ (by omega))).1
   rw [haf _ (by omega)] at this
   refine ⟨this,?_⟩
   show g.pri.getD (psP (s++l) (s.length+(j+1))) 0≤g.pri.getD (psP (s++l) (s.length+k)) 0
   rw [hke];exact hle (j+1) (by omega)
  ·have:=(hE (s.length+(l.length - 1)) (by omega) (hall _ (by omega))).1
   rw [show s.length+(l.length - 1)=(s++l).length - 1 by omega,hlast] at this
   rw [show s.length+(l.length - 1)=(s++l).length - 1 by omega]
   refine ⟨this,?_⟩
   show g.pri.getD (psP (s++l) (s.length+0)) 0≤g.pri.getD (psP (s++l) (s.length+k)) 0
   rw [hke];exact hle 0 hl0
 refine hS.cyc _ (hpb _ (by omega)) (hall _ (by omega)) ?_ hcy
 show g.pri.getD (psP (s++l) (s.length+k)) 0 % 2≠w
 rw [hke]
 exact hne
theorem sol_no (hv:Zau g=true) (hs:solB g W C=true) (hi:isP g s l=true):Zee g W C s l=false:=by
 obtain ⟨hc,hS⟩:=(Zhj (validB_iff.1 hv)).1 hs
 obtain ⟨_,_,hc⟩:=of_decide_eq_true hc
 obtain ⟨hl,hb,_⟩:=isP_iff.1 hi
 have hl0:0 < l.length:=List.length_pos_iff.2 hl
 have h0:psP (s++l) 0 < g.own.length:=by
  have:=hb 0 (by rw [List.length_append];omega)
  show ((s++l).getD 0 0).toNat < _
  omega
 have hw:=(hc _ h0).1
 cases hag:Zee g W C s l with
 |false=>rfl
 |true =>
 exfalso
 obtain ⟨hf,hx⟩:=against_iff.1 hag
 obtain ⟨a1,a2⟩:=fol_win hv (hS _ hw) hw hi rfl fun i hi2 ho hw2=>by rw [hf i hi2 ⟨ho,hw2⟩]
 rcases hx with ⟨i,hi2,h⟩|h
 ·exact h (a1 i hi2)
 ·exact h a2
end
end Go.Proofs.YtjcmlflljibikaaGreatDoor.Cal
