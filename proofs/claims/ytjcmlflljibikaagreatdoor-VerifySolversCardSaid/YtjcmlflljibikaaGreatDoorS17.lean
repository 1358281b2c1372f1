/- Own texts, merged. -/
import Derived.Test.YtjcmlflljibikaaGreatDoorS16
set_option linter.unusedVariables false
set_option linter.unusedSimpArgs false
open Nat (reduceAdd reduceSub reduceMul reduceEqDiff reduceLeDiff reduceLT)
namespace Go.Proofs.YtjcmlflljibikaaGreatDoor.Cal
section
open Pl
def sg (pl:Int) (p:Nat):Int:=if (p:Int) % 2=pl then 1 else -1
def enF (pl B:Int) (f:Nat→Int):Nat→Int
 |0=>0
 |k+1=>enF pl B f k+sg pl k * f k * B ^ k
variable {pl B:Int}
theorem sg_or (p:Nat):sg pl p=1∨sg pl p = -1:=by
 unfold sg
 split
 ·exact .inl rfl
 ·exact .inr rfl
theorem Zh1 {f h:Nat→Int}:∀ {k:Nat},(∀ q,q < k→f q=h q)→enF pl B f k=enF pl B h k
 |0,_=>rfl
 |k+1,H=>by rw [enF,enF,Zh1 (k:=k) fun q hq=>H q (by omega),H k (by omega)]
theorem Zld {f h:Nat→Int}:∀ {k:Nat},enF pl B (fun q=>f q - h q) k=enF pl B f k - enF pl B h k
 |0=>rfl
 |k+1=>by
  rw [enF,enF,enF,Zld (k:=k),Int.mul_sub,Int.sub_mul]
  omega
theorem Zi7 : ∀ {k:Nat},enF pl B (fun _=>0) k=0
 |0=>rfl
 |k+1=>by rw [enF,Zi7 (k:=k),Int.mul_zero,Int.zero_mul];rfl
theorem powB (hB:1≤B):∀ (k:Nat),1≤B ^ k
 |0=>by rw [Int.pow_zero];exact Int.le_refl 1
 |k+1=>by
  have:=powB hB k
  rw [Int.pow_succ]
  have:=Int.mul_le_mul this hB (by decide) (by omega)
  omega
theorem Zl3 {D:Int} (hD:0≤D) (hB:D+1≤B) {f:Nat→Int}:∀ {k:Nat},(∀ q,q < k → -D≤f q∧f q≤D) → -(B ^ k - 1)≤enF pl B f k∧enF pl B f k≤B ^ k - 1
 |0,_=>by
  have e:enF pl B f 0=0:=rfl
  rw [e,Int.pow_zero];exact ⟨Int.le_refl _,Int.le_refl _⟩
 |k+1,H=>by
  obtain ⟨h1,h2⟩:=Zl3 hD hB (k:=k) fun q hq=>H q (by omega)
  obtain ⟨h3,h4⟩:=H k (by omega)
  have hP:=powB (show 1≤B by omega) k
  rw [enF,Int.pow_succ]
  have hD1:D * B ^ k≤(B - 1) * B ^ k:=Int.mul_le_mul_of_nonneg_right (by omega) (by omega)
  have h5:f k * B ^ k≤D * B ^ k:=Int.mul_le_mul_of_nonneg_right h4 (by omega)
  have h6 : -D * B ^ k≤f k * B ^ k:=Int.mul_le_mul_of_nonneg_right h3 (by omega)
  rw [Int.sub_mul,Int.one_mul] at hD1
  rw [Int.neg_mul] at h6
  rw [Int.mul_comm (B ^ k) B]
  rcases sg_or (pl:=pl) k with e|e
  ·rw [e,Int.one_mul];omega
  ·rw [e,Int.neg_mul,Int.one_mul,Int.neg_mul];omega
theorem Zmw {D:Int} (hD:0≤D) (hB:D+1≤B) {f:Nat→Int} {p:Nat} (hf:∀ q,q < p → -D≤f q∧f q≤D):∀ {k:Nat},p < k→(∀ q,p < q→q < k→f q=0)→(1≤sg pl p * f p→1≤enF pl B f k)∧(sg pl p * f p ≤ -1→enF pl B f k ≤ -1)
 |0,h,_=>absurd h (Nat.not_lt_zero _)
 |k+1,h,H=>by
  rcases Nat.lt_succ_iff_lt_or_eq.1 h with h1|rfl
  ·have:=Zmw hD hB hf (k:=k) h1 (fun q hq hq2=>H q hq (by omega))
   rw [enF,H k h1 (Nat.lt_succ_self _),Int.mul_zero,Int.zero_mul,Int.add_zero]
   exact this
  ·obtain ⟨h1,h2⟩:=Zl3 hD hB hf (pl:=pl)
   have hP:=powB (show 1≤B by omega) p
   rw [enF]
   refine ⟨fun h3=>?_,fun h3=>?_⟩
   ·have:=Int.mul_le_mul_of_nonneg_right h3 (show 0≤B ^ p by omega)
    rw [Int.one_mul] at this
    omega
   ·have:=Int.mul_le_mul_of_nonneg_right h3 (show 0≤B ^ p by omega)
    rw [Int.neg_mul,Int.one_mul] at this
    omega
def hiF (pl B:Int) (f:Nat→Int) (p:Nat):Nat→Int
 |0=>0
 |k+1=>hiF pl B f p k+sg pl (p+k) * f (p+k) * B ^ k
theorem Zjx {f:Nat→Int} {p:Nat}:∀ {k:Nat},enF pl B f (p+k)=enF pl B f p+B ^ p * hiF pl B f p k
 |0=>by rw [hiF,Int.mul_zero,Int.add_zero];rfl
 |k+1=>by
  rw [←Nat.add_assoc,enF,Zjx (k:=k),hiF,Int.mul_add,Int.add_assoc,Int.pow_add,←Int.mul_assoc,←Int.mul_assoc]
  congr 2
  rw [Int.mul_right_comm,Int.mul_comm _ (B ^ p),←Int.mul_assoc]
def wtP (pl B:Int) (p:Nat):Int:=sg pl p * B ^ p
theorem Znb {p:Nat}:∀ {k:Nat},p < k→enF pl B (fun q=>if q=p then 1 else 0) k=wtP pl B p
 |0,h=>absurd h (Nat.not_lt_zero _)
 |k+1,h=>by
  rw [enF]
  rcases Nat.lt_succ_iff_lt_or_eq.1 h with h1|rfl
  ·rw [Znb h1,if_neg (by omega),Int.mul_zero,Int.zero_mul,Int.add_zero]
  ·rw [if_pos rfl,Int.mul_one,Zh1 (h:=fun _=>0) (fun q hq=>if_neg (by omega)),Zi7,Int.zero_add];rfl
theorem Zle {f h:Nat→Int}:∀ {k:Nat},enF pl B (fun q=>f q+h q) k=enF pl B f k+enF pl B h k
 |0=>rfl
 |k+1=>by
  rw [enF,enF,enF,Zle (k:=k),Int.mul_add,Int.add_mul]
  omega
theorem hi_step {D:Int} (hD:0≤D) (hB:2 * D+2≤B) {f h:Nat→Int} (hf:∀ q,0≤f q∧f q≤D) (hh:∀ q,0≤h q∧h q≤D) {p q k:Nat} (hq:q≤p) (hk:0 < k) (hle:enF pl B f (p+k)≤enF pl B h (p+k)+wtP pl B q) (hs:sg pl p = -1) :
  hiF pl B f p k+(if q=p then 1 else 0)≤hiF pl B h p k:=by
 have hP:=powB (show 1≤B by omega) p
 have key:∀ {a b c:Int},B ^ p * a≤B ^ p * b+c→c≤B ^ p - 1→a≤b:=fun {a b c} h1 h2=>by
  refine Int.le_of_lt_add_one (Int.lt_of_mul_lt_mul_left (a:=B ^ p) ?_ (by omega))
  rw [Int.mul_add,Int.mul_one]
  omega
 rw [Zjx,Zjx] at hle
 by_cases e:q=p
 ·subst e
  rw [if_pos rfl]
  have e1:wtP pl B q = -(B ^ q):=by unfold wtP;rw [hs,Int.neg_mul,Int.one_mul]
  rw [e1] at hle
  have hd:=Zl3 (pl:=pl) (B:=B) (D:=D) hD (by omega) (f:=fun x=>h x - f x) (k:=q) fun x _=>by have:=hf x;have:=hh x;omega
  rw [Zld] at hd
  refine key (c:=enF pl B h q - enF pl B f q) ?_ hd.2
  rw [Int.mul_add,Int.mul_one]
  omega
 ·rw [if_neg e,Int.add_zero]
  have hqp:q < p:=by omega
  have hd:=Zl3 (pl:=pl) (B:=B) (D:=D+1) (by omega) (by omega) (f:=fun x=>(h x - f x)+(if x=q then 1 else 0)) (k:=p) fun x _=>by
   have:=hf x
   have:=hh x
   split<;>omega
  rw [Zle,Zld,Znb hqp] at hd
  refine key (c:=enF pl B h p - enF pl B f p+wtP pl B q) ?_ hd.2
  omega
end
section
open Pl
inductive Zv where
 |nev
 |fin (x:Int)
 |evr
namespace Zv
def le : Zv→Zv→Prop
 |nev,_=>True
 |fin _,nev=>False
 |fin a,fin b=>a≤b
 |fin _,evr=>True
 |evr,evr=>True
 |evr,_=>False
def add : Zv→Int→Zv
 |nev,_=>nev
 |fin a,b=>fin (a+b)
 |evr,_=>evr
theorem le_refl : ∀ (a:Zv),a.le a
 |nev=>trivial
 |fin a=>Int.le_refl a
 |evr=>trivial
theorem le_trans {a b c:Zv} (h:a.le b) (h2:b.le c):a.le c:=by
 cases a<;>cases b<;>cases c<;>simp only [le] at *<;>omega
theorem le_anti {a b:Zv} (h:a.le b) (h2:b.le a):a=b:=by
 cases a<;>cases b<;>simp only [le] at *<;>first|rfl|(congr;omega)
theorem le_tot {a b:Zv} (h:¬ a.le b):b.le a:=by
 cases a<;>cases b<;>simp only [le,not_true_eq_false,not_false_eq_true] at *<;>omega
theorem le_evr (a:Zv):a.le evr:=by cases a<;>trivial
theorem add_mono {a b:Zv} {x:Int} (h:a.le b):(a.add x).le (b.add x):=by
 cases a<;>cases b<;>simp only [le,add] at *<;>omega
theorem add_up {a:Zv} {x:Int} (h:0≤x):a.le (a.add x):=by
 cases a<;>simp only [le,add] at *<;>omega
theorem add_add {a:Zv} {x y:Int}:(a.add x).add y=a.add (x+y):=by
 cases a<;>simp only [add]
 congr 1;omega
theorem evr_le {a:Zv} (h:evr.le a):a=evr:=by
 cases a<;>simp only [le] at h ⊢
theorem le_nev {a:Zv} (h:a.le nev):a=nev:=by
 cases a<;>simp only [le] at h ⊢
end Zv
variable {own:Nat→Int} {sx:Nat→List Nat} {pl:Int} {n:Nat} {lost:Nat→Prop} {wt:Nat→Int} {c:Nat→Int}
def EdI (own:Nat→Int) (sx:Nat→List Nat) (pl:Int) (c:Nat→Int) (v u:Nat):Prop:=(own v=pl→(u:Int)=c v)∧(own v≠pl→u∈sx v)
inductive Wl (own:Nat→Int) (sx:Nat→List Nat) (pl:Int) (lost:Nat→Prop) (wt:Nat→Int) (c:Nat→Int):List Nat→Zv→Prop
 |lost {v:Nat}:lost v→Wl own sx pl lost wt c [v] .nev
 |stop {v:Nat}:¬ lost v→own v=pl→c v < 0→Wl own sx pl lost wt c [v] (.fin (wt v))
 |step {v u:Nat} {l:List Nat} {x:Zv}:¬ lost v→EdI own sx pl c v u→Wl own sx pl lost wt c (u :: l) x→Wl own sx pl lost wt c (v :: u :: l) (x.add (wt v))
def Pth (own:Nat→Int) (sx:Nat→List Nat) (pl:Int) (lost:Nat→Prop) (c:Nat→Int):Nat→List Nat→Nat→Prop
 |v,[],w=>¬ lost v∧EdI own sx pl c v w
 |v,u :: a,w=>¬ lost v∧EdI own sx pl c v u∧Pth own sx pl lost c u a w
def sumW (wt:Nat→Int):List Nat→Int
 |[]=>0
 |v :: l=>wt v+sumW wt l
theorem wl_split {v:Nat}:∀ {l:List Nat} {u:Nat} {x:Zv},Wl own sx pl lost wt c (u :: l) x→v∈l→∃ a b y,u :: l=(u :: a)++v :: b∧Pth own sx pl lost c u a v∧Wl own sx pl lost wt c (v :: b) y∧x=y.add (sumW wt (u :: a)):=by
 intro l
 induction l with
 |nil=>intro u x _ h;cases h
 |cons w l ih =>
  intro u x h hm
  cases h with
  |@step _ _ _ x' h1 h2 h3 =>
   by_cases e:v=w
   ·subst e
    refine ⟨[],l,x',rfl,⟨h1,h2⟩,h3,?_⟩
    show x'.add (wt u)=x'.add (wt u+0)
    rw [Int.add_zero]
   ·obtain ⟨a,b,y,e1,p,q,e2⟩:=ih h3 ((List.mem_cons.1 hm).resolve_left e)
    refine ⟨w :: a,b,y,?_,⟨h1,h2,p⟩,q,?_⟩
    ·rw [e1];rfl
    ·rw [e2,Zv.add_add]
     show _=y.add (wt u+sumW wt (w :: a))
     rw [Int.add_comm]
theorem wl_short (hcyc:∀ v a,Pth own sx pl lost c v a v→(v :: a).Nodup→0≤sumW wt (v :: a)):∀ {l:List Nat} {v:Nat} {x:Zv},Wl own sx pl lost wt c (v :: l) x→∃ l' x',Wl own sx pl lost wt c (v :: l') x'∧(v :: l').Nodup∧x'.le x:=by
 intro l
 induction l with
 |nil=>intro v x h;exact ⟨[],x,h,by simp,Zv.le_refl _⟩
 |cons u l ih =>
  intro v x h
  cases h with
  |@step _ _ _ x1 h1 h2 h3 =>
   obtain ⟨l',x',w,nd,hle⟩:=ih h3
   by_cases hm:v∈u :: l'
   ·rcases List.mem_cons.1 hm with rfl|hm
    ·have:=hcyc v [] ⟨h1,h2⟩ (by simp)
     have this:0≤wt v+0:=this
     exact ⟨l',x',w,nd,Zv.le_trans hle (Zv.add_up (by omega))⟩
    ·obtain ⟨a,b,y,e1,p,q,e2⟩:=wl_split w hm
     have nd2:=nd
     rw [e1] at nd2
     obtain ⟨n1,n2,n3⟩:=List.nodup_append.1 nd2
     have hc:=hcyc v (u :: a) ⟨h1,h2,p⟩ (List.nodup_cons.2 ⟨fun h=>n3 v h v List.mem_cons_self rfl,n1⟩)
     refine ⟨b,y,q,n2,Zv.le_trans (Zv.add_up hc) ?_⟩
     show (y.add (wt v+sumW wt (u :: a))).le _
     rw [Int.add_comm,←Zv.add_add,←e2]
     exact Zv.add_mono hle
   ·exact ⟨u :: l',x'.add (wt v),.step h1 h2 w,List.nodup_cons.2 ⟨hm,nd⟩,Zv.add_mono hle⟩
structure Bh (own:Nat→Int) (sx:Nat→List Nat) (pl:Int) (wt:Nat→Int) (c:Nat→Int) (l:Nat→Zv) (v:Nat) (y:Zv):Prop where
 st:own v=pl→c v < 0→y=.fin (wt v)
 le:∀ u,EdI own sx pl c v u→y.le ((l u).add (wt v))
 ex:y=.evr∨(own v=pl∧c v < 0)∨∃ u,EdI own sx pl c v u∧y=(l u).add (wt v)
theorem min_of (g:Nat→Zv):∀ (L:List Nat),∃ y,(∀ u,u∈L→y.le (g u))∧(y=.evr∨∃ u,u∈L∧y=g u)
 |[]=>⟨.evr,(fun u h=>by cases h),.inl rfl⟩
 |a :: L=>by
  obtain ⟨y,h1,h2⟩:=min_of g L
  rcases Classical.em (y.le (g a)) with h|h
  ·refine ⟨y,fun u hu=>?_,?_⟩
   ·rcases List.mem_cons.1 hu with rfl|hu
    ·exact h
    ·exact h1 u hu
   ·rcases h2 with h2|⟨u,h2,h3⟩
    ·exact .inl h2
    ·exact .inr ⟨u,List.mem_cons_of_mem _ h2,h3⟩
  ·refine ⟨g a,fun u hu=>?_,.inr ⟨a,List.mem_cons_self,rfl⟩⟩
   rcases List.mem_cons.1 hu with rfl|hu
   ·exact Zv.le_refl _
   ·exact Zv.le_trans (Zv.le_tot h) (h1 u hu)
theorem bh_ex (l:Nat→Zv) (v:Nat):∃ y,Bh own sx pl wt c l v y:=by
 by_cases ho:own v=pl
 ·by_cases hc:c v < 0
  ·exact ⟨.fin (wt v),fun _ _=>rfl,fun u h=>by have:=h.1 ho;omega,.inr (.inl ⟨ho,hc⟩)⟩
  ·have e:∀ u:Nat,(u:Int)=c v↔u=(c v).toNat:=fun u=>by omega
   refine ⟨(l (c v).toNat).add (wt v),fun _ h=>absurd h hc,fun u h=>?_,.inr (.inr ⟨(c v).toNat,⟨fun _=>(e _).2 rfl,fun h=>absurd ho h⟩,rfl⟩)⟩
   rw [(e u).1 (h.1 ho)];exact Zv.le_refl _
 ·obtain ⟨y,h1,h2⟩:=min_of (fun u=>(l u).add (wt v)) (sx v)
  refine ⟨y,fun h=>absurd h ho,fun u h=>h1 u (h.2 ho),?_⟩
  rcases h2 with h2|⟨u,h2,h3⟩
  ·exact .inl h2
  ·exact .inr (.inr ⟨u,⟨fun h=>absurd h ho,fun _=>h2⟩,h3⟩)
theorem bh_mono {l l':Nat→Zv} {v:Nat} {y y':Zv} (h:∀ u,EdI own sx pl c v u→(l' u).le (l u)) (hy:Bh own sx pl wt c l v y) (hy':Bh own sx pl wt c l' v y'):y'.le y:=by
 rcases hy.ex with e|⟨h1,h2⟩|⟨u,h1,h2⟩
 ·rw [e];exact Zv.le_evr _
 ·rw [hy.st h1 h2,hy'.st h1 h2];exact Zv.le_refl _
 ·rw [h2];exact Zv.le_trans (hy'.le u h1) (Zv.add_mono (h u h1))
open Classical in
noncomputable def updZ (lost:Nat→Prop) (l:Nat→Zv) (i:Nat) (y:Zv):Nat→Zv:=fun v=>if v=i∧¬ lost i∧¬ (l i).le y then y else l v
theorem Zm5 {l:Nat→Zv} {i:Nat} {y:Zv} (v:Nat):(updZ lost l i y v).le (l v):=by
 unfold updZ
 split
 ·rename_i h
  rw [h.1];exact Zv.le_tot h.2.2
 ·exact Zv.le_refl _
theorem upd_at {l:Nat→Zv} {i:Nat} {y:Zv} (h:¬ lost i):(updZ lost l i y i).le y:=by
 unfold updZ
 split
 ·exact Zv.le_refl _
 ·rename_i h2
  exact Classical.byContradiction fun h3=>h2 ⟨rfl,h,h3⟩
structure VI (own:Nat→Int) (sx:Nat→List Nat) (pl:Int) (n:Nat) (lost:Nat→Prop) (wt:Nat→Int) (c:Nat→Int) (j i:Nat) (l:Nat→Zv):Prop where
 snd:∀ v,v < n→l v=.evr∨∃ l',Wl own sx pl lost wt c (v :: l') (l v)
 cmp:∀ v,v < n→∀ l' x,Wl own sx pl lost wt c (v :: l') x→l'.length+1≤(if v < i then j+1 else j)→(l v).le x
 lst:∀ v,v < n→lost v→l v=.nev
 pre:∀ v,v < n→¬ lost v→∀ y,Bh own sx pl wt c l v y→y.le (l v)
theorem VI_next {j:Nat} {l:Nat→Zv} (h:VI own sx pl n lost wt c j n l):VI own sx pl n lost wt c (j+1) 0 l :=
 ⟨h.snd,fun v hv l' x hw hl=>h.cmp v hv l' x hw (by rw [if_pos hv];rw [if_neg (by omega)] at hl;exact hl),h.lst,h.pre⟩
open Classical in
theorem VI_first : VI own sx pl n lost wt c 0 0 (fun v=>if lost v then .nev else .evr):=by
 refine ⟨fun v hv=>?_,fun v hv l' x hw hl=>?_,fun v hv h=>if_pos h,fun v hv h y hy=>?_⟩
 ·by_cases h:lost v
  ·rw [if_pos h];exact .inr ⟨[],.lost h⟩
  ·rw [if_neg h];exact .inl rfl
 ·rw [if_neg (by omega)] at hl;omega
 ·rw [if_neg h];exact Zv.le_evr _
theorem VI_step (hsx:∀ v u,v < n→EdI own sx pl c v u→u < n) {j i:Nat} {l:Nat→Zv} {y:Zv} (hi:i < n) (h:VI own sx pl n lost wt c j i l) (hy:Bh own sx pl wt c l i y):VI own sx pl n lost wt c j (i+1) (updZ lost l i y):=by
 refine ⟨fun v hv=>?_,fun v hv l' x hw hl=>?_,fun v hv hlo=>?_,fun v hv hlo y' hy'=>?_⟩
 ·unfold updZ
  split
  ·rename_i h2
   obtain ⟨rfl,h3,h4⟩:=h2
   rcases hy.ex with e|⟨h5,h6⟩|⟨u,h5,h6⟩
   ·exact .inl e
   ·refine .inr ⟨[],?_⟩
    rw [hy.st h5 h6];exact .stop h3 h5 h6
   ·rcases h.snd u (hsx _ _ hv h5) with e|⟨l',hw⟩
    ·left;rw [h6,e];rfl
    ·exact .inr ⟨u :: l',h6▸.step h3 h5 hw⟩
  ·exact h.snd v hv
 ·by_cases e:v=i
  ·subst e
   cases hw with
   |lost h2=>rw [show updZ lost l v y v=l v by unfold updZ;rw [if_neg (fun h=>h.2.1 h2)],h.lst v hv h2];exact trivial
   |stop h2 h3 h4=>rw [←hy.st h3 h4];exact upd_at h2
   |@step _ u l2 x2 h2 h3 h4 =>
    refine Zv.le_trans (upd_at h2) (Zv.le_trans (hy.le u h3) (Zv.add_mono ?_))
    refine h.cmp u (hsx _ _ hv h3) l2 x2 h4 ?_
    rw [if_pos (by omega),List.length_cons] at hl
    split<;>omega
  ·refine Zv.le_trans (Zm5 v) (h.cmp v hv l' x hw ?_)
   by_cases h2:v < i
   ·rw [if_pos h2];rw [if_pos (by omega)] at hl;exact hl
   ·rw [if_neg h2];rw [if_neg (by omega)] at hl;exact hl
 ·have:=Zm5 (lost:=lost) (l:=l) (i:=i) (y:=y) v
  rw [h.lst v hv hlo] at this
  exact Zv.le_nev this
 ·by_cases e:v=i
  ·subst e
   have h1:=bh_mono (fun u _=>Zm5 u) hy hy'
   unfold updZ
   split
   ·exact h1
   ·rename_i h2
    have:(l v).le y:=Classical.byContradiction fun h3=>h2 ⟨rfl,hlo,h3⟩
    exact Zv.le_trans h1 (h.pre v hv hlo y hy)
  ·obtain ⟨y0,hy0⟩:=bh_ex (own:=own) (sx:=sx) (pl:=pl) (wt:=wt) (c:=c) l v
   rw [show updZ lost l i y v=l v by unfold updZ;rw [if_neg (fun h=>e h.1)]]
   exact Zv.le_trans (bh_mono (fun u _=>Zm5 u) hy0 hy') (h.pre v hv hlo y0 hy0)
theorem VI_stop (hcyc:∀ v a,Pth own sx pl lost c v a v→(v :: a).Nodup→0≤sumW wt (v :: a)) (hsx:∀ v u,v < n→EdI own sx pl c v u→u < n) {j i:Nat} {l:Nat→Zv} {y:Zv} (hi:i < n) (hj:n≤j) (h:VI own sx pl n lost wt c j i l) (hy:Bh own sx pl wt c l i y):lost i∨(l i).le y:=by
 by_cases hl:lost i
 ·exact .inl hl
 right
 have key:∀ {l':List Nat} {x:Zv},Wl own sx pl lost wt c (i :: l') x→(l i).le x:=fun {l' x} hw=>by
  obtain ⟨l2,x2,w2,nd,hle⟩:=wl_short hcyc hw
  have hin:∀ {l:List Nat} {v:Nat} {x:Zv},Wl own sx pl lost wt c (v :: l) x→v < n→∀ u,u∈v :: l→u < n:=by
   intro l
   induction l with
   |nil=>intro v x _ hv u hu;rw [List.mem_singleton.1 hu];exact hv
   |cons w l ih =>
    intro v x h hv u hu
    cases h with
    |step h1 h2 h3 =>
     rcases List.mem_cons.1 hu with rfl|hu
     ·exact hv
     ·exact ih h3 (hsx _ _ hv h2) u hu
  have:=Zcq n _ nd (hin w2 hi)
  rw [List.length_cons] at this
  exact Zv.le_trans (h.cmp i hi l2 x2 w2 (by split<;>omega)) hle
 rcases hy.ex with e|⟨h5,h6⟩|⟨u,h5,h6⟩
 ·rw [e];exact Zv.le_evr _
 ·rw [hy.st h5 h6];exact key (.stop hl h5 h6)
 ·rcases h.snd u (hsx _ _ hi h5) with e|⟨l',hw⟩
  ·rw [h6,e];exact Zv.le_evr _
  ·rw [h6];exact key (.step hl h5 hw)
theorem VI_ge {φ l:Nat→Zv} (hsx:∀ v u,v < n→EdI own sx pl c v u→u < n) (h0:∀ v,v < n→lost v→φ v=.nev) (hst:∀ v,v < n→¬ lost v→own v=pl→c v < 0→(φ v).le (.fin (wt v))) (hed:∀ v u,v < n→¬ lost v→EdI own sx pl c v u→(φ v).le ((φ u).add (wt v))) (h:∀ v,v < n→(φ v).le (l v)) {i:Nat} {y:Zv} (hi:i < n) (hy:Bh own sx pl wt c l i y):∀ v,v < n→(φ v).le (updZ lost l i y v):=by
 intro v hv
 unfold updZ
 split
 ·rename_i h2
  obtain ⟨rfl,h3,h4⟩:=h2
  rcases hy.ex with e|⟨h5,h6⟩|⟨u,h5,h6⟩
  ·rw [e];exact Zv.le_evr _
  ·rw [hy.st h5 h6];exact hst v hv h3 h5 h6
  ·rw [h6]
   exact Zv.le_trans (hed v u hv h3 h5) (Zv.add_mono (h u (hsx _ _ hv h5)))
 ·exact h v hv
end
section
open Pl
theorem enF_neg {pl B:Int} (hp:pl=0∨pl=1) {f:Nat→Int}:∀ {k:Nat},enF (1 - pl) B f k = -(enF pl B f k)
 |0=>rfl
 |k+1=>by
  rw [enF,enF,enF_neg hp (k:=k)]
  have:sg (1 - pl) k = -(sg pl k):=by
   unfold sg
   split<;>split<;>omega
  rw [this,Int.neg_mul,Int.neg_mul]
  omega
theorem sg_neg {pl:Int} (hp:pl=0∨pl=1) {k:Nat}:sg (1 - pl) k = -(sg pl k):=by
 unfold sg
 split<;>split<;>omega
theorem wt_neg {pl B:Int} (hp:pl=0∨pl=1) {q:Nat}:wtP (1 - pl) B q = -(wtP pl B q):=by
 unfold wtP
 rw [sg_neg hp,Int.neg_mul]
def DigV (pl B D:Int) (K n:Nat) (l:Nat→Zv) (m:Nat→Nat→Int):Prop:=∀ v,v < n→∀ x,l v=.fin x→x=enF pl B (m v) K∧∀ q,0≤m v q∧m v q≤D
variable {own pri:Nat→Int} {sx:Nat→List Nat} {pl B D:Int} {n K:Nat} {lost:Nat→Prop} {c c':Nat→Int} {l:Nat→Zv} {m:Nat→Nat→Int}
def wtF (pl B:Int) (pri:Nat→Int) (v:Nat):Int:=wtP pl B (pri v).toNat
theorem cyc_up (hD:0≤D) (hB:2 * D+2≤B) (hdig:DigV pl B D K n l m) (hpri:∀ v,v < n→0≤pri v∧(pri v).toNat < K) {E:Nat→Nat→Prop} (hE:∀ a b,E a b→a < n∧b < n∧(l a).le ((l b).add (wtF pl B pri a))) {w:Nat} (hbad:sg pl (pri w).toNat = -1) {x:Int} (hw:l w=.fin x):¬ Cyc E pri w:=by
 rintro ⟨t,⟨hwt,hlt⟩,hr⟩
 have hwn:=(hE _ _ hwt).1
 have key:∀ {a b:Nat},a < n→pri a≤pri w→E a b→∀ {y},l a=.fin y→l b=.evr∨∃ z,l b=.fin z∧hiF pl B (m a) (pri w).toNat (K - (pri w).toNat)+(if (pri a).toNat=(pri w).toNat then 1 else 0)≤hiF pl B (m b) (pri w).toNat (K - (pri w).toNat):=by
  intro a b ha hpa he y hy
  obtain ⟨_,hb,hle⟩:=hE _ _ he
  rw [hy] at hle
  cases hlb:l b with
  |nev=>rw [hlb] at hle;exact hle.elim
  |evr=>exact .inl rfl
  |fin z =>
   refine .inr ⟨z,rfl,?_⟩
   rw [hlb] at hle
   have hle:y≤z+wtF pl B pri a:=hle
   obtain ⟨e1,d1⟩:=hdig a ha y hy
   obtain ⟨e2,d2⟩:=hdig b hb z hlb
   have hq:=(hpri w hwn).2
   have hKe:(pri w).toNat+(K - (pri w).toNat)=K:=by omega
   exact hi_step hD hB d1 d2 (by omega) (by omega) (by rw [hKe,←e1,←e2];exact hle) hbad
 -- what holds behind the first step
 have P:∀ {z:Nat},Rch (Low E pri w) t z→z < n∧pri z≤pri w∧(l z=.evr∨∃ y,l z=.fin y∧hiF pl B (m w) (pri w).toNat (K - (pri w).toNat)+1≤hiF pl B (m z) (pri w).toNat (K - (pri w).toNat)):=by
  intro z hz
  induction hz with
  |refl =>
   refine ⟨(hE _ _ hwt).2.1,hlt,?_⟩
   rcases key hwn (Int.le_refl _) hwt hw with h|⟨z,h1,h2⟩
   ·exact .inl h
   ·rw [if_pos rfl] at h2;exact .inr ⟨z,h1,h2⟩
  |step _ e ih =>
   obtain ⟨i1,i2,i3⟩:=ih
   refine ⟨(hE _ _ e.1).2.1,e.2,?_⟩
   rcases i3 with h|⟨y,h1,h2⟩
   ·left
    have:=(hE _ _ e.1).2.2
    rw [h] at this
    have:=Zv.evr_le this
    revert this
    cases l _<;>intro h<;>first|rfl|cases h
   ·rcases key i1 i2 e.1 h1 with h|⟨z,h3,h4⟩
    ·exact .inl h
    ·refine .inr ⟨z,h3,?_⟩
     split at h4<;>omega
 obtain ⟨_,_,h⟩:=P hr
 rcases h with h|⟨y,h1,h2⟩
 ·rw [hw] at h;cases h
 ·omega
theorem cyc_down (hp:pl=0∨pl=1) (hD:0≤D) (hB:2 * D+2≤B) (hdig:DigV pl B D K n l m) (hpri:∀ v,v < n→0≤pri v∧(pri v).toNat < K) {E:Nat→Nat→Prop} (hE:∀ a b,E a b→a < n∧b < n∧∃ x y,l a=.fin x∧l b=.fin y∧y+wtF pl B pri a≤x) {w:Nat} (hgood:sg pl (pri w).toNat=1):¬ Cyc E pri w:=by
 intro hc
 obtain ⟨t,ht,hr⟩:=id hc
 obtain ⟨hwn,_,x,_,hx,_⟩:=hE _ _ ht.1
 -- the same for the other player, with all worths turned round
 refine cyc_up (pl:=1 - pl) (l:=fun v=>match l v with | .fin x=>.fin (-x)|z=>z) (m:=m) hD hB (K:=K) (n:=n) (fun v hv x hx=>?_) hpri (E:=E) (fun a b he=>?_) (w:=w) (by rw [sg_neg hp,hgood]) (x := -x) (by rw [hx]) hc
 ·cases hlv:l v with
  |nev=>dsimp only at hx;rw [hlv] at hx;cases hx
  |evr=>dsimp only at hx;rw [hlv] at hx;cases hx
  |fin y =>
   dsimp only at hx
   rw [hlv] at hx
   obtain ⟨e,d⟩:=hdig v hv y hlv
   refine ⟨?_,d⟩
   rw [enF_neg hp,←e]
   injection hx with hx
   exact hx.symm
 ·obtain ⟨ha,hb,x,y,h1,h2,h3⟩:=hE a b he
  refine ⟨ha,hb,?_⟩
  rw [h1,h2]
  show -x ≤ -y+wtP (1 - pl) B (pri a).toNat
  rw [wt_neg hp]
  have:wtF pl B pri a=wtP pl B (pri a).toNat:=rfl
  omega
def NB (own pri:Nat→Int) (sx:Nat→List Nat) (pl:Int) (n:Nat) (lost:Nat→Prop) (c:Nat→Int):Prop:=∀ w,w < n→sg pl (pri w).toNat = -1→¬ Cyc (fun a b=>a < n∧¬ lost a∧EdI own sx pl c a b) pri w
theorem pth_rch {E:Nat→Nat→Prop} {P:Int}:∀ {a:List Nat} {v u:Nat},Pth own sx pl lost c v a u→(∀ x y,¬ lost x→EdI own sx pl c x y→x∈v :: a→pri y≤P→E x y)→(∀ z,z∈a→pri z≤P)→pri u≤P→Rch E v u∧∀ w,w∈v :: a→Rch E v w∧∃ t,(E w t∧pri t≤P)∧Rch E t u:=by
 intro a
 induction a with
 |nil =>
  intro v u h hE _ hu
  have e:=hE v u h.1 h.2 List.mem_cons_self hu
  refine ⟨Rch.one e,fun w hw=>?_⟩
  rw [List.mem_singleton.1 hw]
  exact ⟨.refl _,u,⟨e,hu⟩,.refl _⟩
 |cons z a ih =>
  intro v u h hE hP hu
  obtain ⟨h1,h2,h3⟩:=h
  have e:=hE v z h1 h2 List.mem_cons_self (hP z List.mem_cons_self)
  obtain ⟨i1,i2⟩:=ih h3 (fun x y q1 q2 q3 q4=>hE x y q1 q2 (List.mem_cons_of_mem _ q3) q4) (fun z hz=>hP z (List.mem_cons_of_mem _ hz)) hu
  refine ⟨Rch.cons e i1,fun w hw=>?_⟩
  rcases List.mem_cons.1 hw with rfl|hw
  ·exact ⟨.refl _,z,⟨e,hP z List.mem_cons_self⟩,i1⟩
  ·obtain ⟨j1,j2⟩:=i2 w hw
   exact ⟨Rch.cons e j1,j2⟩
def cntP (pri:Nat→Int) (l:List Nat) (q:Nat):Int:=(l.countP fun v=>decide ((pri v).toNat=q):Nat)
theorem sumW_en (hK:∀ v,v < n→(pri v).toNat < K):∀ {L:List Nat},(∀ v,v∈L→v < n)→sumW (wtF pl B pri) L=enF pl B (cntP pri L) K
 |[],_=>by
  show (0:Int)=enF pl B (fun _=>0) K
  rw [Zi7]
 |a :: L,h=>by
  have e:cntP pri (a :: L)=fun q=>cntP pri L q+(if q=(pri a).toNat then 1 else 0):=by
   funext q
   unfold cntP
   rw [List.countP_cons]
   by_cases e:(pri a).toNat=q
   ·rw [if_pos (by simpa using e),if_pos e.symm];omega
   ·rw [if_neg (by simpa using e),if_neg (fun h=>e h.symm)];omega
  rw [e,Zle,Znb (hK a (h a List.mem_cons_self)),←sumW_en hK (L:=L) fun v hv=>h v (List.mem_cons_of_mem _ hv)]
  show wtF pl B pri a+_=_+wtP pl B (pri a).toNat
  rw [Int.add_comm];rfl
theorem top_of : ∀ {L:List Nat},L≠[]→∃ w,w∈L∧∀ v,v∈L→pri v≤pri w
 |[],h=>absurd rfl h
 |[a],_=>⟨a,List.mem_cons_self,fun v hv=>by rw [List.mem_singleton.1 hv];exact Int.le_refl _⟩
 |a :: b :: L,_=>by
  obtain ⟨w,h1,h2⟩:=top_of (L:=b :: L) (by simp)
  by_cases h:pri a≤pri w
  ·refine ⟨w,List.mem_cons_of_mem _ h1,fun v hv=>?_⟩
   rcases List.mem_cons.1 hv with rfl|hv
   ·exact h
   ·exact h2 v hv
  ·refine ⟨a,List.mem_cons_self,fun v hv=>?_⟩
   rcases List.mem_cons.1 hv with rfl|hv
   ·exact Int.le_refl _
   ·have:=h2 v hv;omega
theorem nb_cyc (hD:(n:Int)≤D) (hB:D+1≤B) (hpri:∀ v,v < n→0≤pri v∧(pri v).toNat < K) (hnb:NB own pri sx pl n lost c) (hlt:∀ v a u,Pth own sx pl lost c v a u→u < n→∀ z,z∈v :: a→z < n):∀ v a,Pth own sx pl lost c v a v→v < n→(v :: a).Nodup→0≤sumW (wtF pl B pri) (v :: a):=by
 intro v a hp hv hnd
 have hin:=hlt v a v hp hv
 have hlen:=Zcq n _ hnd hin
 obtain ⟨w,hw,htop⟩:=top_of (pri:=pri) (L:=v :: a) (by simp)
 have hwn:=hin w hw
 have hgood:sg pl (pri w).toNat=1:=by
  rcases sg_or (pl:=pl) (pri w).toNat with h|h
  ·exact h
  ·exfalso
   refine hnb w hwn h ?_
   obtain ⟨r1,r2⟩:=pth_rch (E:=Low (fun a b=>a < n∧¬ lost a∧EdI own sx pl c a b) pri w) (pri:=pri) (P:=pri w) hp (fun x y q1 q2 q3 q4=>⟨⟨hin x q3,q1,q2⟩,q4⟩) (fun z hz=>htop z (List.mem_cons_of_mem _ hz)) (htop v List.mem_cons_self)
   obtain ⟨r3,t,⟨r4,_⟩,r5⟩:=r2 w hw
   exact ⟨t,r4,Rch.trans r5 r3⟩
 rw [sumW_en (fun v hv=>(hpri v hv).2) hin]
 have hcb:∀ q,0≤cntP pri (v :: a) q∧cntP pri (v :: a) q≤D:=fun q=>by
  unfold cntP
  have:(v :: a).countP (fun v=>decide ((pri v).toNat=q))≤(v :: a).length:=List.countP_le_length
  omega
 have hz:∀ q,(pri w).toNat < q→q < K→cntP pri (v :: a) q=0:=fun q h1 h2=>by
  unfold cntP
  have:(v :: a).countP (fun v=>decide ((pri v).toNat=q))=0:=List.countP_eq_zero.2 fun z hz=>by
   have:=htop z hz
   simp only [decide_eq_true_eq]
   omega
  omega
 have h1:1≤cntP pri (v :: a) (pri w).toNat:=by
  unfold cntP
  have:0 < (v :: a).countP (fun v=>decide ((pri v).toNat=(pri w).toNat)):=List.countP_pos_iff.2 ⟨w,hw,by simp⟩
  omega
 have:=(Zmw (pl:=pl) (D:=D) (B:=B) (by omega) hB (f:=cntP pri (v :: a)) (p:=(pri w).toNat) (fun q _=>by have:=hcb q;omega) (hpri w hwn).2 hz).1 (by rw [hgood];omega)
 omega
def nowZ (c:Nat→Int) (l:Nat→Zv) (v:Nat):Zv:=if c v < 0 then .fin 0 else l (c v).toNat
structure Fx (own pri:Nat→Int) (sx:Nat→List Nat) (pl B:Int) (n:Nat) (lost:Nat→Prop) (c:Nat→Int) (l:Nat→Zv):Prop where
 fx:∀ v,v < n→¬ lost v→Bh own sx pl (wtF pl B pri) c l v (l v)
 ls:∀ v,v < n→lost v→l v=.nev
 lo:∀ v,lost v→own v≠pl
 ch:∀ v,v < n→own v=pl→0≤c v→l (c v).toNat≠.nev
def Imp1 (own:Nat→Int) (sx:Nat→List Nat) (pl:Int) (n:Nat) (c:Nat→Int) (l:Nat→Zv) (c':Nat→Int):Prop :=
 ∀ v,v < n→own v=pl→c' v=c v∨∃ u:Nat,u∈sx v∧c' v=u∧¬ (l u).le (nowZ c l v)
theorem Zit (h:Fx own pri sx pl B n lost c l) {v:Nat} (hv:v < n) (ho:own v=pl):l v=(nowZ c l v).add (wtF pl B pri v):=by
 have hb:=h.fx v hv fun hl=>h.lo v hl ho
 unfold nowZ
 split
 ·rename_i hc
  rw [hb.st ho hc]
  show Zv.fin _=Zv.fin _
  rw [Int.zero_add]
 ·rename_i hc
  have he:EdI own sx pl c v (c v).toNat:=⟨fun _=>by omega,fun h=>absurd ho h⟩
  rcases hb.ex with e|⟨_,h2⟩|⟨u,h2,h3⟩
  ·have:=hb.le _ he
   rw [e] at this
   rw [e,Zv.evr_le this]
  ·exact absurd h2 hc
  ·have:u=(c v).toNat:=by have:=h2.1 ho;omega
   rw [h3,this]
theorem fx_nev (h:Fx own pri sx pl B n lost c l) {v:Nat} (hv:v < n) (ho:own v=pl):l v≠.nev:=by
 rw [Zit h hv ho]
 unfold nowZ
 split
 ·intro h;cases h
 ·rename_i hc
  have:=h.ch v hv ho (by omega)
  intro h2
  cases h3:l (c v).toNat with
  |nev=>exact this h3
  |evr=>rw [h3] at h2;cases h2
  |fin x=>rw [h3] at h2;cases h2
theorem Zna (h:Fx own pri sx pl B n lost c l) (hi:Imp1 own sx pl n c l c') {v u:Nat} (hv:v < n) (hl:¬ lost v) (he:EdI own sx pl c' v u):(l v).le ((l u).add (wtF pl B pri v)):=by
 by_cases ho:own v=pl
 ·rcases hi v hv ho with e|⟨w,h1,h2,h3⟩
  ·exact (h.fx v hv hl).le u ⟨fun _=>by rw [←e];exact he.1 ho,fun h=>absurd ho h⟩
  ·have:u=w:=by have:=he.1 ho;omega
   subst this
   rw [Zit h hv ho]
   exact Zv.add_mono (Zv.le_tot h3)
 ·exact (h.fx v hv hl).le u ⟨fun h=>absurd h ho,he.2⟩
theorem imp_st (h:Fx own pri sx pl B n lost c l) (hi:Imp1 own sx pl n c l c') {v:Nat} (hv:v < n) (ho:own v=pl) (hc:c' v < 0):(l v).le (.fin (wtF pl B pri v)):=by
 rcases hi v hv ho with e|⟨w,h1,h2,h3⟩
 ·rw [(h.fx v hv fun hl=>h.lo v hl ho).st ho (by omega)];exact Zv.le_refl _
 ·omega
theorem nb_imp (hD:0≤D) (hB:2 * D+2≤B) (hdig:DigV pl B D K n l m) (hpri:∀ v,v < n→0≤pri v∧(pri v).toNat < K) (hsx:∀ v u,v < n→EdI own sx pl c' v u→u < n) (h:Fx own pri sx pl B n lost c l) (hi:Imp1 own sx pl n c l c') (hnb:NB own pri sx pl n lost c):NB own pri sx pl n lost c':=by
 intro w hwn hbad hcy
 cases hlw:l w with
 |fin x=>exact cyc_up hD hB hdig hpri (E:=fun a b=>a < n∧¬ lost a∧EdI own sx pl c' a b) (fun a b he=>⟨he.1,hsx _ _ he.1 he.2.2,Zna h hi he.1 he.2.1 he.2.2⟩) hbad hlw hcy
 |evr =>
  obtain ⟨t,ht,hr⟩:=hcy
  have key:∀ a b,l a=.evr→Low (fun a b=>a < n∧¬ lost a∧EdI own sx pl c' a b) pri w a b→Low (fun a b=>a < n∧¬ lost a∧EdI own sx pl c a b) pri w a b∧l b=.evr:=by
   rintro a b ha ⟨⟨h1,h2,h3⟩,h4⟩
   refine ⟨⟨⟨h1,h2,?_⟩,h4⟩,?_⟩
   ·refine ⟨fun ho=>?_,h3.2⟩
    rcases hi a h1 ho with e|⟨u,q1,q2,q3⟩
    ·rw [←e];exact h3.1 ho
    ·exfalso
     refine q3 ?_
     have e:=Zit h h1 ho
     rw [ha] at e
     cases hn:nowZ c l a with
     |evr=>exact Zv.le_evr _
     |nev=>rw [hn] at e;cases e
     |fin y=>rw [hn] at e;cases e
   ·have:=Zna h hi h1 h2 h3
    rw [ha] at this
    have:=Zv.evr_le this
    revert this
    cases l b<;>intro h<;>first|rfl|cases h
  obtain ⟨k1,k2⟩:=key w t hlw ht
  obtain ⟨k3,_⟩:=Rch.mapD (f:=id) (D:=fun a=>l a=.evr) (fun a b ha hb=>key a b ha hb) hr k2
  exact hnb w hwn hbad ⟨t,k1,k3⟩
 |nev =>
  obtain ⟨t,ht,hr⟩:=hcy
  have key:∀ a b,l b=.nev→Low (fun a b=>a < n∧¬ lost a∧EdI own sx pl c' a b) pri w a b→Low (fun a b=>a < n∧¬ lost a∧EdI own sx pl c a b) pri w a b∧l a=.nev:=by
   rintro a b hb ⟨⟨h1,h2,h3⟩,h4⟩
   have:=Zna h hi h1 h2 h3
   rw [hb] at this
   have hna:=Zv.le_nev this
   have ho:own a≠pl:=fun ho=>fx_nev h h1 ho hna
   exact ⟨⟨⟨h1,h2,fun h=>absurd h ho,h3.2⟩,h4⟩,hna⟩
  have k:∀ {z:Nat},Rch (Low (fun a b=>a < n∧¬ lost a∧EdI own sx pl c' a b) pri w) t z→l z=.nev→Rch (Low (fun a b=>a < n∧¬ lost a∧EdI own sx pl c a b) pri w) t z∧l t=.nev:=by
   intro z hz
   induction hz with
   |refl=>intro h;exact ⟨.refl _,h⟩
   |step _ e ih =>
    intro h2
    obtain ⟨e1,e2⟩:=key _ _ h2 e
    obtain ⟨e3,e4⟩:=ih e2
    exact ⟨.step e3 e1,e4⟩
  obtain ⟨k1,k2⟩:=k hr hlw
  exact hnb w hwn hbad ⟨t,(key w t k2 ht).1,k1⟩
end
section
open Go Pl
def enV (pl B:Int) (K:Nat) (v:Vl):Zv:=if v.n=true then .nev else if v.e=true then .evr else .fin (enF pl B (fun q=>v.m.getD q 0) K)
variable {pl B D:Int} {K:Nat}
theorem cmpK_en (hD:0≤D) (hB:D+1≤B) {a b:List Int} (ha:∀ q,0≤a.getD q 0∧a.getD q 0≤D) (hb:∀ q,0≤b.getD q 0∧b.getD q 0≤D):∀ {k:Nat},cmpK pl a b k=sgnI (enF pl B (fun q=>a.getD q 0) k) (enF pl B (fun q=>b.getD q 0) k)
 |0=>by show 0=sgnI 0 0;rfl
 |k+1=>by
  have ih:=cmpK_en hD hB ha hb (k:=k)
  have e1:cmpK pl a b (k+1)=if sgnI (a.getD k 0) (b.getD k 0)≠0 then (if (k:Int) % 2≠pl then -(sgnI (a.getD k 0) (b.getD k 0)) else sgnI (a.getD k 0) (b.getD k 0)) else cmpK pl a b k:=rfl
  rw [e1]
  have ht:=Zmw (pl:=pl) (B:=B) hD hB (f:=fun q=>a.getD q 0 - b.getD q 0) (p:=k) (fun q _=>by have:=ha q;have:=hb q;omega) (k:=k+1) (Nat.lt_succ_self _) (fun q h1 h2=>by omega)
  rw [Zld] at ht
  obtain ⟨t1,t2⟩:=ht
  have hs:sgnI (a.getD k 0) (b.getD k 0)≠0↔a.getD k 0≠b.getD k 0:=by
   unfold sgnI
   split
   ·exact ⟨fun _=>by omega,fun _=>by decide⟩
   ·split
    ·exact ⟨fun _=>by omega,fun _=>by decide⟩
    ·exact ⟨fun h=>absurd rfl h,fun h=>by omega⟩
  by_cases h:sgnI (a.getD k 0) (b.getD k 0)≠0
  ·rw [if_pos h]
   have hne:=hs.1 h
   unfold sg at t1 t2
   by_cases h2:(k:Int) % 2=pl
   ·rw [if_neg (fun h=>h h2)]
    rw [if_pos h2] at t1 t2
    unfold sgnI
    rcases Int.lt_or_lt_of_ne hne with h3|h3
    ·have:=t2 (by omega)
     rw [if_pos h3,if_pos (by omega)]
    ·have:=t1 (by omega)
     rw [if_neg (by omega),if_pos h3,if_neg (by omega),if_pos (by omega)]
   ·rw [if_pos h2]
    rw [if_neg h2] at t1 t2
    unfold sgnI
    rcases Int.lt_or_lt_of_ne hne with h3|h3
    ·have:=t1 (by omega)
     rw [if_pos h3,if_neg (by omega),if_pos (by omega)];rfl
    ·have:=t2 (by omega)
     rw [if_neg (by omega),if_pos h3,if_pos (by omega)]
  ·rw [if_neg h,ih]
   have he:a.getD k 0=b.getD k 0:=Classical.byContradiction fun h2=>h (hs.2 h2)
   have e2:∀ f:Nat→Int,enF pl B f (k+1)=enF pl B f k+sg pl k * f k * B ^ k:=fun f=>rfl
   rw [e2,e2]
   rw [he]
   generalize sg pl k * b.getD k 0 * B ^ k=z
   generalize enF pl B (fun q=>a.getD q 0) k=x
   generalize enF pl B (fun q=>b.getD q 0) k=y
   have s1:∀ {x y:Int},x < y→sgnI x y = -1:=fun h=>if_pos h
   have s2:∀ {x y:Int},y < x→sgnI x y=1:=fun {x y} h=>by unfold sgnI;rw [if_neg (by omega),if_pos h]
   have s3:∀ {x:Int},sgnI x x=0:=fun {x}=>by unfold sgnI;rw [if_neg (by omega),if_neg (by omega)]
   rcases Int.lt_trichotomy x y with q|q|q
   ·rw [s1 q,s1 (by omega)]
   ·subst q;rw [s3,s3]
   ·rw [s2 q,s2 (by omega)]
theorem sgn_lt {x y:Int}:sgnI x y < 0↔x < y:=by
 unfold sgnI
 split
 ·exact ⟨fun _=>by assumption,fun _=>by decide⟩
 ·split
  ·exact ⟨fun h=>absurd h (by decide),fun h=>by omega⟩
  ·exact ⟨fun h=>absurd h (by decide),fun h=>by omega⟩
theorem sgn_gt {x y:Int}:0 < sgnI x y↔y < x:=by
 unfold sgnI
 split
 ·exact ⟨fun h=>absurd h (by decide),fun h=>by omega⟩
 ·split
  ·exact ⟨fun _=>by assumption,fun _=>by decide⟩
  ·exact ⟨fun h=>absurd h (by decide),fun h=>by omega⟩
theorem Zlh (hD:0≤D) (hB:D+1≤B) {a b:Vl} (ha:VOK K D a) (hb:VOK K D b):(cmpV pl a b < 0↔¬ (enV pl B K b).le (enV pl B K a))∧(0 < cmpV pl a b↔¬ (enV pl B K a).le (enV pl B K b)):=by
 obtain ⟨ae,an,am⟩:=a
 obtain ⟨be,bn,bm⟩:=b
 cases an with
 |true =>
  have e1:cmpV pl ⟨ae,true,am⟩ ⟨be,bn,bm⟩=sgnI (-1) (Zda ⟨be,bn,bm⟩):=by
   unfold cmpV
   rw [if_pos (.inr (by show (-1:Int)≠0;decide))];rfl
  rw [e1]
  cases bn with
  |true=>exact ⟨⟨fun h=>absurd h (by show ¬ sgnI (-1) (-1) < 0;decide),fun h=>absurd trivial h⟩,⟨fun h=>absurd h (by show ¬ 0 < sgnI (-1) (-1);decide),fun h=>absurd trivial h⟩⟩
  |false =>
   cases be with
   |true=>exact ⟨⟨fun _ h=>h,fun _=>by show sgnI (-1) 1 < 0;decide⟩,⟨fun h=>absurd h (by show ¬ 0 < sgnI (-1) 1;decide),fun h=>absurd trivial h⟩⟩
   |false=>exact ⟨⟨fun _ h=>h,fun _=>by show sgnI (-1) 0 < 0;decide⟩,⟨fun h=>absurd h (by show ¬ 0 < sgnI (-1) 0;decide),fun h=>absurd trivial h⟩⟩
 |false =>
  cases ae with
  |true =>
   have e1:cmpV pl ⟨true,false,am⟩ ⟨be,bn,bm⟩=sgnI 1 (Zda ⟨be,bn,bm⟩):=by
    unfold cmpV
    rw [if_pos (.inr (by show (1:Int)≠0;decide))];rfl
   rw [e1]
   cases bn with
   |true=>exact ⟨⟨fun h=>absurd h (by show ¬ sgnI 1 (-1) < 0;decide),fun h=>absurd trivial h⟩,⟨fun _ h=>h,fun _=>by show 0 < sgnI 1 (-1);decide⟩⟩
   |false =>
    cases be with
    |true=>exact ⟨⟨fun h=>absurd h (by show ¬ sgnI 1 1 < 0;decide),fun h=>absurd trivial h⟩,⟨fun h=>absurd h (by show ¬ 0 < sgnI 1 1;decide),fun h=>absurd trivial h⟩⟩
    |false=>exact ⟨⟨fun h=>absurd h (by show ¬ sgnI 1 0 < 0;decide),fun h=>absurd trivial h⟩,⟨fun _ h=>h,fun _=>by show 0 < sgnI 1 0;decide⟩⟩
  |false =>
   cases bn with
   |true =>
    have e1:cmpV pl ⟨false,false,am⟩ ⟨be,true,bm⟩=sgnI 0 (-1):=by
     unfold cmpV
     rw [if_pos (.inl (by show sgnI 0 (-1)≠0;decide))];rfl
    rw [e1]
    exact ⟨⟨fun h=>absurd h (by decide),fun h=>absurd trivial h⟩,⟨fun _ h=>h,fun _=>by decide⟩⟩
   |false =>
    cases be with
    |true =>
     have e1:cmpV pl ⟨false,false,am⟩ ⟨true,false,bm⟩=sgnI 0 1:=by
      unfold cmpV
      rw [if_pos (.inl (by show sgnI 0 1≠0;decide))];rfl
     rw [e1]
     exact ⟨⟨fun _ h=>h,fun _=>by decide⟩,⟨fun h=>absurd h (by decide),fun h=>absurd trivial h⟩⟩
    |false =>
     obtain ⟨_,ha⟩:=ha
     obtain ⟨_,hb⟩:=hb
     obtain ⟨ha1,ha2⟩:=ha rfl
     obtain ⟨hb1,hb2⟩:=hb rfl
     have e1:cmpV pl ⟨false,false,am⟩ ⟨false,false,bm⟩=cmpK pl am bm K:=by
      unfold cmpV
      rw [if_neg (by rintro (h|h)<;>exact h rfl),show (Vl.mk false false am).m.length=K from ha1]
     rw [e1,cmpK_en hD hB ha2 hb2,sgn_lt,sgn_gt]
     have z:∀ x y:Int,¬ (Zv.fin x).le (.fin y)↔y < x:=fun x y=>Int.not_le
     exact ⟨(z _ _).symm,(z _ _).symm⟩
theorem Zmk {v:Vl} (hv:VOK K D v) {q:Nat} (hq:q < K):enV pl B K (Zf8 v q)=(enV pl B K v).add (wtP pl B q):=by
 obtain ⟨e,n,m⟩:=v
 cases n with
 |true =>
  have:Zf8 ⟨e,true,m⟩ q=⟨e,true,m⟩:=if_pos (.inr rfl)
  rw [this];rfl
 |false =>
  cases e with
  |true =>
   have:Zf8 ⟨true,false,m⟩ q=⟨true,false,m⟩:=if_pos (.inl rfl)
   rw [this];rfl
  |false =>
   have:Zf8 ⟨false,false,m⟩ q=⟨false,false,m.set q (m.getD q 0+1)⟩:=if_neg (by rintro (h|h)<;>cases h)
   rw [this]
   obtain ⟨h1,h2⟩:=hv.2 rfl
   have h1:m.length=K:=h1
   show Zv.fin _=Zv.fin _
   congr 1
   rw [←Znb (pl:=pl) (B:=B) hq,←Zle]
   refine Zh1 fun x hx=>?_
   dsimp only
   simp only [List.getD_eq_getElem?_getD,List.getElem?_set]
   by_cases e:q=x
   ·subst e;simp [h1,hq]
   ·rw [if_neg e,if_neg (fun h=>e h.symm),Int.add_zero]
theorem Zn0 (hD:0≤D) (hB:D+1≤B) {l:Nat→Vl}:∀ {row:List Int} {out:Vl},VOK K D out→(∀ w,w∈row→VOK K D (l w.toNat)) →
  (enV pl B K (row.foldl (fun out w=>if cmpV pl (l w.toNat) out < 0 then l w.toNat else out) out)).le (enV pl B K out)∧(∀ w,w∈row→(enV pl B K (row.foldl (fun out w=>if cmpV pl (l w.toNat) out < 0 then l w.toNat else out) out)).le (enV pl B K (l w.toNat))) ∧
  (row.foldl (fun out w=>if cmpV pl (l w.toNat) out < 0 then l w.toNat else out) out=out∨∃ w,w∈row∧row.foldl (fun out w=>if cmpV pl (l w.toNat) out < 0 then l w.toNat else out) out=l w.toNat)
 |[],out,_,_=>⟨Zv.le_refl _,(fun w h=>by cases h),.inl rfl⟩
 |a :: row,out,ho,hl=>by
  have ha:=hl a List.mem_cons_self
  obtain ⟨c1,_⟩:=Zlh (pl:=pl) hD hB ha ho
  rw [List.foldl_cons]
  by_cases h:cmpV pl (l a.toNat) out < 0
  ·rw [if_pos h]
   obtain ⟨i1,i2,i3⟩:=Zn0 hD hB (l:=l) (row:=row) ha fun w hw=>hl w (List.mem_cons_of_mem _ hw)
   refine ⟨Zv.le_trans i1 (Zv.le_tot (c1.1 h)),fun w hw=>?_,?_⟩
   ·rcases List.mem_cons.1 hw with rfl|hw
    ·exact i1
    ·exact i2 w hw
   ·rcases i3 with e|⟨w,hw,e⟩
    ·exact .inr ⟨a,List.mem_cons_self,e⟩
    ·exact .inr ⟨w,List.mem_cons_of_mem _ hw,e⟩
  ·rw [if_neg h]
   obtain ⟨i1,i2,i3⟩:=Zn0 hD hB (l:=l) (row:=row) ho fun w hw=>hl w (List.mem_cons_of_mem _ hw)
   refine ⟨i1,fun w hw=>?_,?_⟩
   ·rcases List.mem_cons.1 hw with rfl|hw
    ·exact Zv.le_trans i1 (Classical.byContradiction fun h2=>h (c1.2 h2))
    ·exact i2 w hw
   ·rcases i3 with e|⟨w,hw,e⟩
    ·exact .inl e
    ·exact .inr ⟨w,List.mem_cons_of_mem _ hw,e⟩
end
section
open Go Pl
def hOw (h:Im):Nat→Int:=fun v=>h.o.getD v 0
def hPr (h:Im):Nat→Int:=fun v=>h.p.getD v 0
def hLo (h:Im):Nat→Prop:=fun v=>h.ls.getD v false=true
def cF (ch:List Int):Nat→Int:=fun v=>ch.getD v (-1)
theorem Zl4 {ch:List Int} {v:Nat} (h:v < ch.length):cF ch v=ch.getD v 0:=by simp [cF,List.getD_eq_getElem?_getD,h]
def eF (h:Im) (B:Int) (K:Nat) (l:Nat→Vl):Nat→Zv:=fun u=>enV h.pl B K (l u)
variable {h:Im} {B D:Int} {K:Nat} {ch:List Int}
theorem Zos (H:ImOK h K) (hst:enV h.pl B K h.st=.fin 0) (hD:0≤D) (hB:D+1≤B) (hcl:ch.length=h.o.length) (hc:∀ v,v < h.o.length→ch.getD v 0 < h.o.length) {l:Nat→Vl} (hl:∀ u,u < h.o.length→VOK K D (l u)) {v:Nat} (hv:v < h.o.length) :
  Bh (hOw h) (rws h.x) h.pl (wtF h.pl B (hPr h)) (cF ch) (eF h B K l) v (enV h.pl B K (h.bh ch l v)):=by
 have hq:=(H.p0 v hv).2
 have hcf:cF ch v=ch.getD v 0:=Zl4 (by omega)
 unfold Im.bh bhV
 by_cases ho:h.o.getD v 0=h.pl
 ·rw [if_pos ho]
  by_cases hcv:ch.getD v 0 < 0
  ·rw [if_pos hcv,Zmk (Zc8 H.st hD) hq,hst]
   refine ⟨fun _ _=>?_,fun u hu=>?_,.inr (.inl ⟨ho,by rw [hcf];exact hcv⟩)⟩
   ·show Zv.fin (0+_)=Zv.fin _
    rw [Int.zero_add];rfl
   ·have h1:(u:Int)=ch.getD v 0:=hcf▸hu.1 ho
    omega
  ·rw [if_neg hcv]
   have hcn:=hc v hv
   have hlt:(ch.getD v 0).toNat < h.o.length:=by omega
   rw [Zmk (hl _ hlt) hq]
   refine ⟨fun _ h2=>absurd h2 (by rw [hcf];exact hcv),fun u hu=>?_,.inr (.inr ⟨(ch.getD v 0).toNat,⟨fun _=>?_,fun h2=>absurd ho h2⟩,rfl⟩)⟩
   ·have h1:(u:Int)=ch.getD v 0:=hcf▸hu.1 ho
    have:u=(ch.getD v 0).toNat:=by omega
    rw [this];exact Zv.le_refl _
   ·rw [hcf];omega
 ·rw [if_neg ho]
  have hrow:∀ w,w∈h.x.getD v []→VOK K D (l w.toNat):=fun w hw=>by
   obtain ⟨j,hj,rfl⟩:=Zdv hw
   have:=(H.row v hv).2 j hj
   exact hl _ (by omega)
  have hout:VOK K D ⟨true,false,[]⟩:=⟨Nat.zero_le _,fun h=>by cases h⟩
  obtain ⟨m1,m2,m3⟩:=Zn0 (pl:=h.pl) hD hB (l:=l) (row:=h.x.getD v []) hout hrow
  have hmin:VOK K D (minV h.pl l (h.x.getD v [])):=Znz hrow
  rw [Zmk hmin hq]
  refine ⟨fun h2=>absurd h2 ho,fun u hu=>?_,?_⟩
  ·obtain ⟨w,hw,rfl⟩:=List.mem_map.1 (hu.2 ho)
   exact Zv.add_mono (m2 w hw)
  ·rcases m3 with e|⟨w,hw,e⟩
   ·left
    have e:minV h.pl l (h.x.getD v [])=⟨true,false,[]⟩:=e
    rw [e];rfl
   ·right;right
    refine ⟨w.toNat,⟨fun h2=>absurd h2 ho,fun _=>List.mem_map.2 ⟨w,hw,rfl⟩⟩,?_⟩
    have e:minV h.pl l (h.x.getD v [])=l w.toNat:=e
    rw [e];rfl
theorem Zmb (H:ImOK h K) (hD:0≤D) (hB:D+2≤B) (hcl:ch.length=h.o.length) (hc:∀ v,v < h.o.length→ch.getD v 0 < h.o.length) {s:(Nat→Vl) × Bool} (hl:∀ u,u < h.o.length→VOK K D (s.1 u)) {v:Nat} (hv:v < h.o.length) :
  eF h B K (Zj8 h ch s v).1=updZ (hLo h) (eF h B K s.1) v (enV h.pl B K (h.bh ch s.1 v))∧((hLo h v∨(eF h B K s.1 v).le (enV h.pl B K (h.bh ch s.1 v)))→Zj8 h ch s v=s):=by
 have hbv:=Zor H hc hD hl hv
 obtain ⟨c1,_⟩:=Zlh (pl:=h.pl) (B:=B) (D:=D+1) (by omega) (by omega) hbv (Zc8 (hl v hv) (by omega:D≤D+1))
 have hls:h.ls.getD v false=false↔¬ hLo h v:=by
  show _↔¬ (h.ls.getD v false=true)
  cases h.ls.getD v false<;>simp
 unfold Zj8
 refine ⟨?_,fun hh=>if_neg fun h2=>?_⟩
 ·funext u
  unfold updZ
  by_cases hcnd:h.ls.getD v false=false∧cmpV h.pl (h.bh ch s.1 v) (s.1 v) < 0
  ·rw [if_pos hcnd]
   show enV h.pl B K (if u=v then h.bh ch s.1 v else s.1 u)=_
   by_cases e:u=v
   ·subst e
    rw [if_pos rfl,if_pos ⟨rfl,hls.1 hcnd.1,c1.1 hcnd.2⟩]
   ·rw [if_neg e,if_neg (fun h=>e h.1)];rfl
  ·rw [if_neg hcnd,if_neg]
   rintro ⟨rfl,h2,h3⟩
   exact hcnd ⟨hls.2 h2,c1.2 h3⟩
 ·rcases hh with hh|hh
  ·exact hls.1 h2.1 hh
  ·exact c1.1 h2.2 hh
def VokAll (h:Im) (ch:List Int) (K:Nat) (D:Int):Prop:=∀ j,j≤h.o.length→∀ i,i≤h.o.length→∀ u,u < h.o.length→VOK K D ((Zd4 h ch (vIt h ch j) i).1 u)
theorem Zje (H:ImOK h K) (hc:∀ v,v < h.o.length→ch.getD v 0 < h.o.length):VokAll h ch K 900000000000:=fun j hj i hi u hu=>by
 have hn:=H.n
 have h1:(j:Int) * (h.o.length:Int)≤20000 * 20000:=Int.mul_le_mul (by omega) (by omega) (by omega) (by omega)
 exact Zc8 (Zks H hc (Int.mul_nonneg (by omega) (by omega)) (Zoo H hc (k:=j)) hi u hu) (by omega)
theorem Zn7 (H:ImOK h K) (hcl:ch.length=h.o.length) (hc:∀ v,v < h.o.length→ch.getD v 0 < h.o.length) {v u:Nat} (hv:v < h.o.length) (he:EdI (hOw h) (rws h.x) h.pl (cF ch) v u):u < h.o.length:=by
 by_cases ho:h.o.getD v 0=h.pl
 ·have hcf:cF ch v=ch.getD v 0:=Zl4 (by omega)
  have h1:(u:Int)=ch.getD v 0:=hcf▸he.1 ho
  have:=hc v hv
  omega
 ·obtain ⟨w,hw,rfl⟩:=List.mem_map.1 (he.2 ho)
  obtain ⟨j,hj,rfl⟩:=Zdv hw
  have:=(H.row v hv).2 j hj
  omega
abbrev VIh (h:Im) (B:Int) (ch:List Int) (j i:Nat) (l:Nat→Zv):Prop:=VI (hOw h) (rws h.x) h.pl h.o.length (hLo h) (wtF h.pl B (hPr h)) (cF ch) j i l
theorem Zl9 (H:ImOK h K) (hst:enV h.pl B K h.st=.fin 0) (hD:0≤D) (hB:D+2≤B) (hcl:ch.length=h.o.length) (hc:∀ v,v < h.o.length→ch.getD v 0 < h.o.length) {j:Nat} {l:Nat→Vl} (hl:∀ i,i≤h.o.length→∀ u,u < h.o.length→VOK K D ((Zd4 h ch l i).1 u)) (hV:VIh h B ch j 0 (eF h B K l)):∀ i,i≤h.o.length→VIh h B ch j i (eF h B K (Zd4 h ch l i).1)
 |0,_=>hV
 |i+1,hi=>by
  have ih:=Zl9 H hst hD hB hcl hc hl hV i (by omega)
  rw [Zdr,(Zmb H hD hB hcl hc (hl i (by omega)) (v:=i) (by omega)).1]
  exact VI_step (fun v u hv he=>Zn7 H hcl hc hv he) (by omega) ih (Zos H hst hD (by omega) hcl hc (hl i (by omega)) (by omega))
theorem Zol (H:ImOK h K) (hst:enV h.pl B K h.st=.fin 0) (hD:0≤D) (hB:D+2≤B) (hcl:ch.length=h.o.length) (hc:∀ v,v < h.o.length→ch.getD v 0 < h.o.length) (hA:VokAll h ch K D):∀ j,j≤h.o.length→VIh h B ch j 0 (eF h B K (vIt h ch j))
 |0,_=>by
  have e:eF h B K (vIt h ch 0)=fun v=>open Classical in if hLo h v then .nev else .evr:=by
   funext v
   show enV h.pl B K ⟨!h.ls.getD v false,h.ls.getD v false,[]⟩=_
   by_cases e:h.ls.getD v false=true
   ·rw [if_pos (show hLo h v from e),e];rfl
   ·have e2:h.ls.getD v false=false:=by simpa using e
    rw [if_neg (show ¬ hLo h v from e),e2];rfl
  rw [e]
  exact VI_first
 |j+1,hj=>VI_next (Zl9 H hst hD hB hcl hc (hA j (by omega)) (Zol H hst hD hB hcl hc hA j (by omega)) h.o.length (Nat.le_refl _))
end
section
open Go Pl
variable {h:Im} {B:Int} {K:Nat} {ch:List Int}
theorem ed_src (hxl:h.x.length=h.o.length) (hcl:ch.length=h.o.length) {v u:Nat} (he:EdI (hOw h) (rws h.x) h.pl (cF ch) v u):v < h.o.length:=by
 rcases Nat.lt_or_ge v h.o.length with h1|h1
 ·exact h1
 ·exfalso
  by_cases ho:hOw h v=h.pl
  ·have h2:(u:Int)=cF ch v:=he.1 ho
   have:cF ch v = -1:=by simp [cF,List.getD_eq_getElem?_getD,List.getElem?_eq_none (show ch.length≤v by omega)]
   omega
  ·have h2:=he.2 ho
   have e:h.x.getD v []=[]:=by rw [List.getD_eq_getElem?_getD,List.getElem?_eq_none (by omega)];rfl
   unfold rws at h2
   rw [e] at h2
   cases h2
theorem Znu (hxl:h.x.length=h.o.length) (hcl:ch.length=h.o.length):∀ {a:List Nat} {v u:Nat},Pth (hOw h) (rws h.x) h.pl (hLo h) (cF ch) v a u→∀ z,z∈v :: a→z < h.o.length
 |[],v,u,hp,z,hz=>by
  rw [List.mem_singleton.1 hz]
  exact ed_src hxl hcl hp.2
 |b :: a,v,u,hp,z,hz=>by
  rcases List.mem_cons.1 hz with rfl|hz
  ·exact ed_src hxl hcl hp.2.1
  ·exact Znu hxl hcl (a:=a) hp.2.2 z hz
abbrev NBh (h:Im) (ch:List Int):Prop:=NB (hOw h) (hPr h) (rws h.x) h.pl h.o.length (hLo h) (cF ch)
structure ChOK (h:Im) (ch:List Int):Prop where
 len:ch.length=h.o.length
 lt:∀ v,v < h.o.length→ch.getD v 0 < h.o.length
 nb:NBh h ch
theorem nb_all (H:ImOK h K) (hB:900000000000+1≤B) (hC:ChOK h ch):∀ v a,Pth (hOw h) (rws h.x) h.pl (hLo h) (cF ch) v a v→(v :: a).Nodup→0≤sumW (wtF h.pl B (hPr h)) (v :: a):=fun v a hp hnd=>by
 have hn:=H.n
 exact nb_cyc (D:=900000000000) (by omega) hB (fun v hv=>H.p0 v hv) hC.nb (fun v a u hp _=>Znu H.xl hC.len hp) v a hp (Znu H.xl hC.len hp v List.mem_cons_self) hnd
theorem pass_stop (H:ImOK h K) (hst:enV h.pl B K h.st=.fin 0) (hB:900000000000+2≤B) (hC:ChOK h ch):∀ i,i≤h.o.length→Zd4 h ch (vIt h ch h.o.length) i=(vIt h ch h.o.length,false)
 |0,_=>rfl
 |i+1,hi=>by
  have ih:=pass_stop H hst hB hC i (by omega)
  have hA:=Zje H hC.lt
  have hV:=Zl9 H hst (by decide) hB hC.len hC.lt (hA h.o.length (Nat.le_refl _)) (Zol H hst (by decide) hB hC.len hC.lt hA h.o.length (Nat.le_refl _)) i (by omega)
  have hl:=hA h.o.length (Nat.le_refl _) i (by omega)
  rw [Zdr]
  rw [ih] at hV hl ⊢
  refine (Zmb H (by decide) hB hC.len hC.lt hl (v:=i) (by omega)).2 ?_
  exact VI_stop (nb_all H (by omega) hC) (fun v u hv he=>Zn7 H hC.len hC.lt hv he) (by omega) (Nat.le_refl _) hV (Zos H hst (by decide) (by omega) hC.len hC.lt hl (by omega))
theorem least_f {f:Nat→Bool}:∀ (m:Nat),f m=false→∃ k,k≤m∧(∀ j,j < k→f j=true)∧f k=false:=by
 intro m
 induction m using Nat.strongRecOn with
 |_ m ih =>
  intro hm
  by_cases hj:∃ j,j < m∧f j=false
  ·obtain ⟨j,h1,h2⟩:=hj
   obtain ⟨k,h3,h4⟩:=ih j h1 h2
   exact ⟨k,by omega,h4⟩
  ·refine ⟨m,Nat.le_refl _,fun j hj2=>?_,hm⟩
   cases hf:f j with
   |true=>rfl
   |false=>exact absurd ⟨j,hj2,hf⟩ hj
theorem vend_ex (H:ImOK h K) (hst:enV h.pl B K h.st=.fin 0) (hB:900000000000+2≤B) (hC:ChOK h ch):∃ k,k≤h.o.length∧VEnd h ch k:=by
 have hn:=H.n
 obtain ⟨k,h1,h2,h3⟩:=least_f (f:=fun j=>(Zd4 h ch (vIt h ch j) h.o.length).2) h.o.length (by
  show (Zd4 h ch (vIt h ch h.o.length) h.o.length).2=false
  rw [pass_stop H hst hB hC _ (Nat.le_refl _)])
 exact ⟨k,h1,by omega,h2,h3⟩
theorem pass_flag {l:Nat→Vl}:∀ {m i:Nat},(Zd4 h ch l m).2=false→i < m→¬ (h.ls.getD i false=false∧cmpV h.pl (h.bh ch l i) (l i) < 0)
 |0,i,_,hi=>absurd hi (Nat.not_lt_zero _)
 |m+1,i,hf,hi=>by
  rw [Zdr] at hf
  unfold Zj8 at hf
  split at hf
  ·cases hf
  ·rename_i h2
   rcases Nat.lt_succ_iff_lt_or_eq.1 hi with h3|rfl
   ·exact pass_flag hf h3
   ·rw [Zid hf] at h2
    exact h2
theorem Zn3 (H:ImOK h K) (hC:ChOK h ch) {k:Nat} (hk:k≤h.o.length):∀ u,u < h.o.length→VOK K 900000000000 (vIt h ch k u):=fun u hu=>Zje H hC.lt k hk 0 (Nat.zero_le _) u hu
theorem fx_of (H:ImOK h K) (hst:enV h.pl B K h.st=.fin 0) (hB:900000000000+2≤B) (hC:ChOK h ch) (hlo:∀ v,hLo h v→hOw h v≠h.pl) {k:Nat} (hk:k≤h.o.length) (hE:VEnd h ch k) (hch:∀ v,v < h.o.length→hOw h v=h.pl→0≤cF ch v→eF h B K (vIt h ch k) (cF ch v).toNat≠.nev) :
  Fx (hOw h) (hPr h) (rws h.x) h.pl B h.o.length (hLo h) (cF ch) (eF h B K (vIt h ch k)):=by
 have hA:=Zje H hC.lt
 have hV:=Zol H hst (by decide) hB hC.len hC.lt hA k hk
 have hl:=Zn3 H hC hk
 refine ⟨fun v hv hnl=>?_,hV.lst,hlo,hch⟩
 have hb:=Zos H hst (by decide) (by omega) hC.len hC.lt hl hv (B:=B)
 have h1:=hV.pre v hv hnl _ hb
 have hf:=pass_flag hE.2.2 hv
 have hbv:=Zor H hC.lt (by decide) hl hv
 obtain ⟨c1,_⟩:=Zlh (pl:=h.pl) (B:=B) (D:=900000000000+1) (by omega) (by omega) hbv (Zc8 (hl v hv) (by omega))
 have h2:(eF h B K (vIt h ch k) v).le (enV h.pl B K (h.bh ch (vIt h ch k) v)):=Classical.byContradiction fun h3=>hf ⟨by
  cases e:h.ls.getD v false with
  |false=>rfl
  |true=>exact absurd e hnl,c1.2 h3⟩
 rw [←Zv.le_anti h1 h2]
 exact hb
theorem Zn8 (H:ImOK h K) (hC:ChOK h ch) {k:Nat} (hk:k≤h.o.length):DigV h.pl B 900000000000 K h.o.length (eF h B K (vIt h ch k)) (fun v q=>(vIt h ch k v).m.getD q 0):=by
 intro v hv x hx
 have hl:=Zn3 H hC hk v hv
 have hx:enV h.pl B K (vIt h ch k v)=.fin x:=hx
 unfold enV at hx
 split at hx
 ·cases hx
 ·rename_i hn
  split at hx
  ·cases hx
  ·rename_i he
   injection hx with hx
   have hr:Zda (vIt h ch k v)=0:=by
    unfold Zda
    rw [if_neg hn,if_neg he]
   exact ⟨hx.symm,(hl.2 hr).2⟩
end
section
open Go Pl
variable {h:Im} {B:Int} {K:Nat} {ch:List Int}
theorem Zo5 {pl D:Int} (hD:0≤D) (hB:D+1≤B) {l:Nat→Vl}:∀ {row:List Int} {s:Vl × Int × Bool},VOK K D s.1→(∀ w,w∈row→VOK K D (l w.toNat)) →
  (enV pl B K s.1).le (enV pl B K (btIn pl l row s).1)∧(∀ w,w∈row→(enV pl B K (l w.toNat)).le (enV pl B K (btIn pl l row s).1))∧(btIn pl l row s=s∨∃ w,w∈row∧btIn pl l row s=(l w.toNat,w,true)∧¬ (enV pl B K (l w.toNat)).le (enV pl B K s.1))
 |[],s,_,_=>⟨Zv.le_refl _,(fun w h=>by cases h),.inl rfl⟩
 |a :: row,s,ho,hl=>by
  have ha:=hl a List.mem_cons_self
  obtain ⟨_,c2⟩:=Zlh (pl:=pl) hD hB ha ho
  have e:btIn pl l (a :: row) s=btIn pl l row (if 0 < cmpV pl (l a.toNat) s.1 then (l a.toNat,a,true) else s):=List.foldl_cons ..
  rw [e]
  by_cases h:0 < cmpV pl (l a.toNat) s.1
  ·rw [if_pos h]
   have hgt:=c2.1 h
   obtain ⟨i1,i2,i3⟩:=Zo5 hD hB (l:=l) (row:=row) (s:=(l a.toNat,a,true)) ha fun w hw=>hl w (List.mem_cons_of_mem _ hw)
   refine ⟨Zv.le_trans (Zv.le_tot hgt) i1,fun w hw=>?_,?_⟩
   ·rcases List.mem_cons.1 hw with rfl|hw
    ·exact i1
    ·exact i2 w hw
   ·rcases i3 with e|⟨w,hw,e,hn⟩
    ·exact .inr ⟨a,List.mem_cons_self,e,hgt⟩
    ·exact .inr ⟨w,List.mem_cons_of_mem _ hw,e,fun h2=>hn (Zv.le_trans h2 (Zv.le_tot hgt))⟩
  ·rw [if_neg h]
   have hle:(enV pl B K (l a.toNat)).le (enV pl B K s.1):=Classical.byContradiction fun h2=>h (c2.2 h2)
   obtain ⟨i1,i2,i3⟩:=Zo5 hD hB (l:=l) (row:=row) (s:=s) ho fun w hw=>hl w (List.mem_cons_of_mem _ hw)
   refine ⟨i1,fun w hw=>?_,?_⟩
   ·rcases List.mem_cons.1 hw with rfl|hw
    ·exact Zv.le_trans hle i1
    ·exact i2 w hw
   ·rcases i3 with e|⟨w,hw,e,hn⟩
    ·exact .inl e
    ·exact .inr ⟨w,List.mem_cons_of_mem _ hw,e,hn⟩
def Zoi (h:Im) (B:Int) (K:Nat) (l:Nat→Vl) (ch c':List Int) (v:Nat):Prop:=c'.getD v 0=ch.getD v 0∧∀ w,w∈h.x.getD v []→(enV h.pl B K (l w.toNat)).le (enV h.pl B K (nowV h ch l v))
def ChgB (h:Im) (B:Int) (K:Nat) (l:Nat→Vl) (ch c':List Int) (v:Nat):Prop:=∃ w,w∈h.x.getD v []∧c'.getD v 0=w∧¬ (enV h.pl B K (l w.toNat)).le (enV h.pl B K (nowV h ch l v))
structure BP (h:Im) (B:Int) (K:Nat) (l:Nat→Vl) (ch:List Int) (i:Nat) (s:List Int × Bool):Prop where
 len:s.1.length=ch.length
 ge:∀ v,i≤v→s.1.getD v 0=ch.getD v 0
 ot:∀ v,v < i→hOw h v≠h.pl→s.1.getD v 0=ch.getD v 0
 ow:∀ v,v < i→hOw h v=h.pl→Zoi h B K l ch s.1 v∨ChgB h B K l ch s.1 v
 fl:s.2=true↔∃ v,v < i∧hOw h v=h.pl∧ChgB h B K l ch s.1 v
theorem now_vok {D:Int} (H:ImOK h K) (hD:0≤D) {l:Nat→Vl} (hl:∀ u,u < h.o.length→VOK K D (l u)) (hlt:∀ v,v < h.o.length→ch.getD v 0 < h.o.length) {v:Nat} (hv:v < h.o.length):VOK K D (nowV h ch l v):=by
 unfold nowV
 have:=hlt v hv
 split
 ·exact hl _ (by omega)
 ·exact Zc8 H.st hD
theorem bp_all {D:Int} (H:ImOK h K) (hD:0≤D) (hB:D+1≤B) {l:Nat→Vl} (hl:∀ u,u < h.o.length→VOK K D (l u)) (hcl:ch.length=h.o.length) (hlt:∀ v,v < h.o.length→ch.getD v 0 < h.o.length):∀ i,i≤h.o.length→BP h B K l ch i (Zg1 h l ch i)
 |0,_=>⟨rfl,fun v _=>rfl,fun v hv=>absurd hv (Nat.not_lt_zero _),fun v hv=>absurd hv (Nat.not_lt_zero _),⟨fun h=>(by cases h),fun ⟨v,hv,_⟩=>absurd hv (Nat.not_lt_zero _)⟩⟩
 |i+1,hi=>by
  have ih:=bp_all H hD hB hl hcl hlt i (by omega)
  rw [Zgy]
  generalize Zg1 h l ch i=s at *
  unfold Zl6
  by_cases ho:h.o.getD i 0≠h.pl
  ·rw [if_pos ho]
   refine ⟨ih.len,fun v hv=>ih.ge v (by omega),fun v hv hne=>?_,fun v hv he=>?_,?_⟩
   ·rcases Nat.lt_succ_iff_lt_or_eq.1 hv with h1|rfl
    ·exact ih.ot v h1 hne
    ·exact ih.ge _ (Nat.le_refl _)
   ·rcases Nat.lt_succ_iff_lt_or_eq.1 hv with h1|rfl
    ·exact ih.ow v h1 he
    ·exact absurd he ho
   ·rw [ih.fl]
    constructor
    ·rintro ⟨v,h1,h2⟩;exact ⟨v,by omega,h2⟩
    ·rintro ⟨v,h1,h2,h3⟩
     rcases Nat.lt_succ_iff_lt_or_eq.1 h1 with h4|rfl
     ·exact ⟨v,h4,h2,h3⟩
     ·exact absurd h2 ho
  ·rw [if_neg ho]
   have ho:h.o.getD i 0=h.pl:=Classical.byContradiction ho
   have hil:i < h.o.length:=by omega
   have hsi:=ih.ge i (Nat.le_refl _)
   have hnow:nowV h s.1 l i=nowV h ch l i:=by unfold nowV;rw [hsi]
   rw [hnow,hsi]
   have hrow:∀ w,w∈h.x.getD i []→VOK K D (l w.toNat):=fun w hw=>by
    obtain ⟨j,hj,rfl⟩:=Zdv hw
    have:=(H.row i hil).2 j hj
    exact hl _ (by omega)
   obtain ⟨_,b2,b3⟩:=Zo5 (pl:=h.pl) hD hB (l:=l) (row:=h.x.getD i []) (s:=(nowV h ch l i,ch.getD i 0,s.2)) (now_vok H hD hl hlt hil) hrow
   generalize btIn h.pl l (h.x.getD i []) (nowV h ch l i,ch.getD i 0,s.2)=r at *
   have hset:∀ v,(s.1.set i r.2.1).getD v 0=if v=i then r.2.1 else s.1.getD v 0:=fun v=>getD_setI (by rw [ih.len];omega)
   have hold:∀ v,v < i→(s.1.set i r.2.1).getD v 0=s.1.getD v 0:=fun v hv=>by rw [hset,if_neg (by omega)]
   have hK:∀ v,v < i→(Zoi h B K l ch (s.1.set i r.2.1) v↔Zoi h B K l ch s.1 v):=fun v hv=>by unfold Zoi;rw [hold v hv]
   have hC:∀ v,v < i→(ChgB h B K l ch (s.1.set i r.2.1) v↔ChgB h B K l ch s.1 v):=fun v hv=>by unfold ChgB;rw [hold v hv]
   have hi2:(s.1.set i r.2.1).getD i 0=r.2.1:=by rw [hset,if_pos rfl]
   refine ⟨by rw [List.length_set];exact ih.len,fun v hv=>?_,fun v hv hne=>?_,fun v hv he=>?_,?_⟩
   ·show (s.1.set i r.2.1).getD v 0=_
    rw [hset,if_neg (by omega)];exact ih.ge v (by omega)
   ·rcases Nat.lt_succ_iff_lt_or_eq.1 hv with h1|rfl
    ·show (s.1.set i r.2.1).getD v 0=_
     rw [hold v h1];exact ih.ot v h1 hne
    ·exact absurd ho hne
   ·rcases Nat.lt_succ_iff_lt_or_eq.1 hv with h1|rfl
    ·exact (ih.ow v h1 he).imp (hK v h1).2 (hC v h1).2
    ·rcases b3 with e|⟨w,hw,e,hn⟩
     ·left
      refine ⟨?_,fun w hw=>?_⟩
      ·show (s.1.set v r.2.1).getD v 0=_
       rw [hi2,e]
      ·have:=b2 w hw
       rw [e] at this;exact this
     ·right
      refine ⟨w,hw,?_,hn⟩
      show (s.1.set v r.2.1).getD v 0=_
      rw [hi2,e]
   ·show r.2.2=true↔_
    rcases b3 with e|⟨w,hw,e,hn⟩
    ·have e2:r.2.2=s.2:=by rw [e]
     rw [e2,ih.fl]
     constructor
     ·rintro ⟨v,h1,h2,h3⟩;exact ⟨v,by omega,h2,(hC v h1).2 h3⟩
     ·rintro ⟨v,h1,h2,h3⟩
      rcases Nat.lt_succ_iff_lt_or_eq.1 h1 with h4|rfl
      ·exact ⟨v,h4,h2,(hC v h4).1 h3⟩
      ·exfalso
       obtain ⟨w,hw,_,hn⟩:=h3
       have:=b2 w hw
       rw [e] at this
       exact hn this
    ·have e2:r.2.2=true:=by rw [e]
     have e3:r.2.1=w:=by rw [e]
     exact ⟨fun _=>⟨i,Nat.lt_succ_self _,ho,w,hw,hi2.trans e3,hn⟩,fun _=>e2⟩
theorem Znx (hst:enV h.pl B K h.st=.fin 0) (l:Nat→Vl) {v:Nat} (hv:v < ch.length):enV h.pl B K (nowV h ch l v)=nowZ (cF ch) (eF h B K l) v:=by
 unfold nowV nowZ
 rw [Zl4 hv]
 split
 ·rw [if_neg (by omega)];rfl
 ·rw [if_pos (by omega),hst]
theorem imp_of {D:Int} (H:ImOK h K) (hst:enV h.pl B K h.st=.fin 0) (hcl:ch.length=h.o.length) {l:Nat→Vl} {s:List Int × Bool} (hb:BP h B K l ch h.o.length s):Imp1 (hOw h) (rws h.x) h.pl h.o.length (cF ch) (eF h B K l) (cF s.1):=by
 intro v hv ho
 have hsl:s.1.length=h.o.length:=hb.len.trans hcl
 rw [Zl4 (show v < s.1.length by omega),Zl4 (show v < ch.length by omega)]
 rcases hb.ow v hv ho with ⟨h1,_⟩|⟨w,h1,h2,h3⟩
 ·exact .inl h1
 ·right
  refine ⟨w.toNat,List.mem_map.2 ⟨w,h1,rfl⟩,?_,?_⟩
  ·rw [h2]
   obtain ⟨j,hj,rfl⟩:=Zdv h1
   have:=(H.row v hv).2 j hj
   omega
  ·rw [Znx hst l (by omega)] at h3
   exact h3
theorem ge_pass (H:ImOK h K) (hst:enV h.pl B K h.st=.fin 0) (hB:900000000000+2≤B) (hcl:ch.length=h.o.length) (hc:∀ v,v < h.o.length→ch.getD v 0 < h.o.length) {φ:Nat→Zv} {l:Nat→Vl} (hl:∀ i,i≤h.o.length→∀ u,u < h.o.length→VOK K 900000000000 ((Zd4 h ch l i).1 u))
  (h0:∀ v,v < h.o.length→hLo h v→φ v=.nev) (hs:∀ v,v < h.o.length→¬ hLo h v→hOw h v=h.pl→cF ch v < 0→(φ v).le (.fin (wtF h.pl B (hPr h) v))) (hed:∀ v u,v < h.o.length→¬ hLo h v→EdI (hOw h) (rws h.x) h.pl (cF ch) v u→(φ v).le ((φ u).add (wtF h.pl B (hPr h) v)))
  (hg:∀ v,v < h.o.length→(φ v).le (eF h B K l v)):∀ i,i≤h.o.length→∀ v,v < h.o.length→(φ v).le (eF h B K (Zd4 h ch l i).1 v)
 |0,_=>hg
 |i+1,hi=>by
  have ih:=ge_pass H hst hB hcl hc hl h0 hs hed hg i (by omega)
  rw [Zdr,(Zmb H (by decide) hB hcl hc (hl i (by omega)) (v:=i) (by omega)).1]
  exact VI_ge (fun v u hv he=>Zn7 H hcl hc hv he) h0 hs hed ih (by omega) (Zos H hst (by decide) (by omega) hcl hc (hl i (by omega)) (by omega))
theorem ge_it (H:ImOK h K) (hst:enV h.pl B K h.st=.fin 0) (hB:900000000000+2≤B) (hcl:ch.length=h.o.length) (hc:∀ v,v < h.o.length→ch.getD v 0 < h.o.length) {φ:Nat→Zv}
  (h0:∀ v,v < h.o.length→hLo h v→φ v=.nev) (hs:∀ v,v < h.o.length→¬ hLo h v→hOw h v=h.pl→cF ch v < 0→(φ v).le (.fin (wtF h.pl B (hPr h) v))) (hed:∀ v u,v < h.o.length→¬ hLo h v→EdI (hOw h) (rws h.x) h.pl (cF ch) v u→(φ v).le ((φ u).add (wtF h.pl B (hPr h) v))):∀ j,j≤h.o.length→∀ v,v < h.o.length→(φ v).le (eF h B K (vIt h ch j) v)
 |0,_=>fun v hv=>by
  show (φ v).le (enV h.pl B K ⟨!h.ls.getD v false,h.ls.getD v false,[]⟩)
  cases e:h.ls.getD v false with
  |true=>rw [h0 v hv e];exact trivial
  |false=>exact Zv.le_evr _
 |j+1,hj=>ge_pass H hst hB hcl hc (Zje H hc j (by omega)) h0 hs hed (ge_it H hst hB hcl hc h0 hs hed j (by omega)) h.o.length (Nat.le_refl _)
end
section
open Go Pl
def numZ (X:Int):Zv→Nat
 |.nev=>0
 |.fin x=>(x+X).toNat+1
 |.evr=>(2 * X).toNat+2
def bndZ (X:Int) (z:Zv):Prop:=∀ x,z=.fin x → -X≤x∧x≤X
theorem num_mono {X:Int} {a b:Zv} (ha:bndZ X a) (h:a.le b):numZ X a≤numZ X b:=by
 cases a with
 |nev=>exact Nat.zero_le _
 |fin x =>
  have:=ha x rfl
  cases b with
  |nev=>exact h.elim
  |fin y =>
   have h:x≤y:=h
   show (x+X).toNat+1≤(y+X).toNat+1
   omega
  |evr=>show (x+X).toNat+1≤(2 * X).toNat+2;omega
 |evr =>
  rw [Zv.evr_le h];exact Nat.le_refl _
theorem num_lt {X:Int} {a b:Zv} (ha:bndZ X a) (hb:bndZ X b) (h:¬ b.le a):numZ X a < numZ X b:=by
 cases b with
 |nev=>exact absurd trivial h
 |fin y =>
  have hb:=hb y rfl
  cases a with
  |nev=>exact Nat.succ_pos _
  |fin x =>
   have ha:=ha x rfl
   have h:¬ y≤x:=h
   show (x+X).toNat+1 < (y+X).toNat+1
   omega
  |evr=>exact absurd trivial h
 |evr =>
  cases a with
  |nev=>exact Nat.succ_pos _
  |fin x =>
   have ha:=ha x rfl
   show (x+X).toNat+1 < (2 * X).toNat+2
   omega
  |evr=>exact absurd trivial h
theorem num_top {X:Int} {a:Zv} (ha:bndZ X a):numZ X a≤(2 * X).toNat+2:=num_mono (b:=.evr) ha (Zv.le_evr _)
def sM (f:Nat→Nat):Nat→Nat
 |0=>0
 |n+1=>sM f n+f n
theorem sM_le {f g:Nat→Nat}:∀ {n:Nat},(∀ v,v < n→f v≤g v)→sM f n≤sM g n
 |0,_=>Nat.le_refl _
 |n+1,h=>Nat.add_le_add (sM_le fun v hv=>h v (by omega)) (h n (Nat.lt_succ_self _))
theorem sM_lt {f g:Nat→Nat}:∀ {n:Nat},(∀ v,v < n→f v≤g v)→(∃ v,v < n∧f v < g v)→sM f n < sM g n
 |0,_,⟨v,hv,_⟩=>absurd hv (Nat.not_lt_zero _)
 |n+1,h,⟨v,hv,hl⟩=>by
  have h1:sM f n≤sM g n:=sM_le fun v hv=>h v (by omega)
  have h2:=h n (Nat.lt_succ_self _)
  show sM f n+f n < sM g n+g n
  rcases Nat.lt_succ_iff_lt_or_eq.1 hv with h3|rfl
  ·have:=sM_lt (n:=n) (fun v hv=>h v (by omega)) ⟨v,h3,hl⟩
   omega
  ·omega
def meaZ (X:Int) (n:Nat) (l:Nat→Zv):Nat:=sM (fun v=>(2 * X).toNat+2 - numZ X (l v)) n
theorem meaZ_lt {X:Int} {n:Nat} {l l':Nat→Zv} (hb:∀ v,v < n→bndZ X (l v)) (hb':∀ v,v < n→bndZ X (l' v)) (hle:∀ v,v < n→(l v).le (l' v)) (hs:∃ v,v < n∧¬ (l' v).le (l v)):meaZ X n l' < meaZ X n l:=by
 refine sM_lt (fun v hv=>?_) ?_
 ·have:=num_mono (hb v hv) (hle v hv)
  omega
 ·obtain ⟨v,hv,h⟩:=hs
  have h1:=num_lt (hb v hv) (hb' v hv) h
  have h2:=num_top (hb' v hv)
  exact ⟨v,hv,by omega⟩
theorem add_cancel {a b:Zv} {x:Int} (h:(a.add x).le (b.add x)):a.le b:=by
 cases a<;>cases b<;>simp only [Zv.le,Zv.add] at *<;>omega
variable {h:Im} {B:Int} {K:Nat} {ch:List Int}
structure ChI (h:Im) (B:Int) (K:Nat) (ch:List Int) (k:Nat):Prop where
 ok:ChOK h ch
 kn:k≤h.o.length
 ve:VEnd h ch k
 hch:∀ v,v < h.o.length→hOw h v=h.pl→0≤cF ch v→eF h B K (vIt h ch k) (cF ch v).toNat≠.nev
 row:∀ v,v < h.o.length→(hOw h v=h.pl→ch.getD v 0 = -1∨ch.getD v 0∈h.x.getD v [])∧(hOw h v≠h.pl→ch.getD v 0 = -1)
structure ImG (h:Im) (B:Int) (K:Nat):Prop where
 ok:ImOK h K
 st:enV h.pl B K h.st=.fin 0
 B:2 * 900000000000+2≤B
 lo:∀ v,hLo h v→hOw h v≠h.pl
theorem ChI.fx {k:Nat} (G:ImG h B K) (C:ChI h B K ch k):Fx (hOw h) (hPr h) (rws h.x) h.pl B h.o.length (hLo h) (cF ch) (eF h B K (vIt h ch k)):=fx_of G.ok G.st (by have:=G.B;omega) C.ok G.lo C.kn C.ve C.hch
theorem ChI.bp {k:Nat} (G:ImG h B K) (C:ChI h B K ch k):BP h B K (vIt h ch k) ch h.o.length (bNx h ch k):=bp_all G.ok (D:=900000000000) (by decide) (by have:=G.B;omega) (Zn3 G.ok C.ok C.kn) C.ok.len C.ok.lt h.o.length (Nat.le_refl _)
theorem ChI.bnd {k:Nat} (G:ImG h B K) (C:ChI h B K ch k):∀ v,v < h.o.length→bndZ (B ^ K) (eF h B K (vIt h ch k) v):=fun v hv x hx=>by
 obtain ⟨e,d⟩:=Zn8 G.ok C.ok C.kn v hv x hx
 have:=Zl3 (pl:=h.pl) (B:=B) (D:=900000000000) (by decide) (by have:=G.B;omega) (f:=fun q=>(vIt h ch k v).m.getD q 0) (k:=K) fun q _=>by
  have d2:0≤(vIt h ch k v).m.getD q 0∧(vIt h ch k v).m.getD q 0≤900000000000:=d q
  omega
 have e2:x=enF h.pl B (fun q=>(vIt h ch k v).m.getD q 0) K:=e
 omega
theorem chi_next {k:Nat} (G:ImG h B K) (C:ChI h B K ch k) (hf:(bNx h ch k).2=true):∃ k',ChI h B K (bNx h ch k).1 k'∧meaZ (B ^ K) h.o.length (eF h B K (vIt h (bNx h ch k).1 k')) < meaZ (B ^ K) h.o.length (eF h B K (vIt h ch k)):=by
 have F:=C.fx G
 have P:=C.bp G
 have hB:=G.B
 have hI:=imp_of (D:=900000000000) G.ok G.st C.ok.len P
 have hfl:=P.fl.1 hf
 have hdig:=Zn8 (B:=B) G.ok C.ok C.kn
 generalize hs:bNx h ch k=s at *
 have hsl:s.1.length=h.o.length:=P.len.trans C.ok.len
 have hrow2:∀ v,v < h.o.length→(hOw h v=h.pl→s.1.getD v 0 = -1∨s.1.getD v 0∈h.x.getD v [])∧(hOw h v≠h.pl→s.1.getD v 0 = -1):=fun v hv=>by
  obtain ⟨r1,r2⟩:=C.row v hv
  refine ⟨fun ho=>?_,fun ho=>?_⟩
  ·rcases P.ow v hv ho with ⟨e,_⟩|⟨w,h1,h2,_⟩
   ·rw [e];exact r1 ho
   ·rw [h2];exact .inr h1
  ·rw [P.ot v hv ho];exact r2 ho
 have hlt2:∀ v,v < h.o.length→s.1.getD v 0 < h.o.length:=fun v hv=>by
  obtain ⟨r1,r2⟩:=hrow2 v hv
  by_cases ho:hOw h v=h.pl
  ·rcases r1 ho with e|e
   ·omega
   ·obtain ⟨j,hj,e2⟩:=Zdv e
    have:=(G.ok.row v hv).2 j hj
    omega
  ·have:=r2 ho;omega
 have hnb2:NBh h s.1:=nb_imp (D:=900000000000) (by decide) (by omega) hdig (fun v hv=>G.ok.p0 v hv) (fun v u hv he=>Zn7 G.ok hsl hlt2 hv he) F hI C.ok.nb
 have hok2:ChOK h s.1:=⟨hsl,hlt2,hnb2⟩
 obtain ⟨k',hk',hE'⟩:=vend_ex G.ok G.st (by omega) hok2
 have hge:=ge_it (φ:=eF h B K (vIt h ch k)) G.ok G.st (by omega) hsl hlt2 F.ls (fun v hv _ ho hc=>imp_st F hI hv ho hc) (fun v u hv hl he=>Zna F hI hv hl he) k' hk'
 have hch2:∀ v,v < h.o.length→hOw h v=h.pl→0≤cF s.1 v→eF h B K (vIt h s.1 k') (cF s.1 v).toNat≠.nev:=fun v hv ho hc e=>by
  have hcv:cF s.1 v=s.1.getD v 0:=Zl4 (by omega)
  have hlt:=hlt2 v hv
  have h1:=hge (cF s.1 v).toNat (by omega)
  rw [e] at h1
  have h1:=Zv.le_nev h1
  rcases hI v hv ho with e2|⟨u,_,e2,h3⟩
  ·rw [e2] at h1 hc
   exact C.hch v hv ho hc h1
  ·rw [e2,Int.toNat_natCast] at h1
   rw [h1] at h3
   exact h3 trivial
 have C2:ChI h B K s.1 k':=⟨hok2,hk',hE',hch2,hrow2⟩
 refine ⟨k',C2,meaZ_lt (C.bnd G) (C2.bnd G) hge ?_⟩
 obtain ⟨v,hv,ho,w,hw,hcw,hn⟩:=hfl
 refine ⟨v,hv,fun hle=>hn ?_⟩
 have F2:=C2.fx G
 have e1:=Zit F hv ho
 have e2:=Zit F2 hv ho
 have hw0:0≤w:=by
  obtain ⟨j,hj,rfl⟩:=Zdv hw
  exact ((G.ok.row v hv).2 j hj).1
 have hwl:w.toNat < h.o.length:=by
  have:=hlt2 v hv
  omega
 have hnow2:nowZ (cF s.1) (eF h B K (vIt h s.1 k')) v=eF h B K (vIt h s.1 k') w.toNat:=by
  unfold nowZ
  rw [Zl4 (show v < s.1.length by omega),hcw,if_neg (by omega)]
 rw [e1,e2,hnow2] at hle
 have h5:=add_cancel hle
 rw [Znx G.st (vIt h ch k) (by have:=C.ok.len;omega)]
 exact Zv.le_trans (hge w.toNat hwl) h5
structure FinI (h:Im) (B:Int) (K:Nat) (C:List Int) (k:Nat):Prop where
 chi:ChI h B K C k
 no:∀ v,v < h.o.length→hOw h v=h.pl→∀ u,u∈rws h.x v→(eF h B K (vIt h C k) u).le (nowZ (cF C) (eF h B K (vIt h C k)) v)
theorem brun_ex (G:ImG h B K):∀ (m:Nat) (ch:List Int) (k:Nat),ChI h B K ch k→meaZ (B ^ K) h.o.length (eF h B K (vIt h ch k))≤m→∃ r L C kf,BRun h r ch k L C∧L=vIt h C kf∧FinI h B K C kf:=by
 intro m
 induction m with
 |zero =>
  intro ch k C hm
  cases hf:(bNx h ch k).2 with
  |true =>
   obtain ⟨k',C2,hlt⟩:=chi_next G C hf
   omega
  |false=>exact brun_end G C hf
 |succ m ih =>
  intro ch k C hm
  cases hf:(bNx h ch k).2 with
  |true =>
   obtain ⟨k',C2,hlt⟩:=chi_next G C hf
   obtain ⟨r,L,Cf,kf,h1,h2,h3⟩:=ih _ k' C2 (by omega)
   exact ⟨r+1,L,Cf,kf,.more C.ve hf h1,h2,h3⟩
  |false=>exact brun_end G C hf
where
 brun_end {ch:List Int} {k:Nat} (G:ImG h B K) (C:ChI h B K ch k) (hf:(bNx h ch k).2=false):∃ r L Cf kf,BRun h r ch k L Cf∧L=vIt h Cf kf∧FinI h B K Cf kf:=by
  have P:=C.bp G
  have hk:∀ v,v < h.o.length→hOw h v=h.pl→Zoi h B K (vIt h ch k) ch (bNx h ch k).1 v:=fun v hv ho=>by
   rcases P.ow v hv ho with h1|h1
   ·exact h1
   ·exfalso
    have:=P.fl.2 ⟨v,hv,ho,h1⟩
    rw [hf] at this;cases this
  have he:(bNx h ch k).1=ch:=ext0 P.len fun v hv=>by
   rw [P.len,C.ok.len] at hv
   by_cases ho:hOw h v=h.pl
   ·exact (hk v hv ho).1
   ·exact P.ot v hv ho
  refine ⟨0,_,_,k,.stop C.ve hf,by rw [he],?_⟩
  rw [he]
  refine ⟨C,fun v hv ho u hu=>?_⟩
  obtain ⟨w,hw,rfl⟩:=List.mem_map.1 hu
  have:=(hk v hv ho).2 w hw
  rw [Znx G.st (vIt h ch k) (by have:=C.ok.len;omega)] at this
  exact this
end
section
open Go Pl
variable {o p:List Int} {x:List (List Int)} {pl:Int}
theorem Zk7 (hv:Zau ⟨o,p,x⟩=true):GmOK o p x∧∀ v,v < p.length→p.getD v 0≤999000:=by
 have hG:=gok (validB_iff.1 hv)
 refine ⟨⟨hG.n,hG.pl,fun v hv=>(hG.pri v hv).1,fun v hv=>by rcases hG.own v hv with h|h<;>(have h:o.getD v 0=_:=h;rw [h];decide),hG.xl,fun v hv=>⟨(hG.len v hv).2,hG.at' v hv⟩⟩,fun v hv=>?_⟩
 have h1:p.length=o.length:=hG.pl
 have h2:p.getD v 0≤60:=(hG.pri v (by show v < o.length;omega)).2
 omega
theorem Zed {v:Nat} (h:(alLs o p x pl).getD v false=true):v < o.length∧o.getD v 0≠pl∧∃ u,u < o.length∧alBs o p x pl u∧Rch (alE o x pl) v u:=by
 have hv:v < o.length:=by
  rcases Nat.lt_or_ge v o.length with h2|h2
  ·exact h2
  ·rw [List.getD_eq_getElem?_getD,List.getElem?_eq_none (by rw [Zls];exact h2)] at h;cases h
 obtain ⟨u,h1,h2,h3⟩:=(Zh8 hv).1 h
 refine ⟨hv,?_,u,h1,h2,h3⟩
 rcases h3.uncons with rfl|⟨t,h4,_⟩
 ·exact h2.1.1
 ·obtain ⟨z,hz,_⟩:=List.mem_map.1 h4
  exact (alR_mem.1 hz).1
theorem lost_step (hG:GmOK o p x) {v u:Nat} (hv:v < o.length) (ho:o.getD v 0≠pl) (hu:u∈rws x v) (hl:(alLs o p x pl).getD u false=true):(alLs o p x pl).getD v false=true:=by
 obtain ⟨h1,h2,z,h3,h4,h5⟩:=Zed hl
 refine (Zh8 hv).2 ⟨z,h3,h4,Rch.cons ?_ h5⟩
 obtain ⟨w,hw,rfl⟩:=List.mem_map.1 hu
 exact List.mem_map.2 ⟨w,alR_mem.2 ⟨ho,hw,h2⟩,rfl⟩
theorem Zn5 (hv:Zau ⟨o,p,x⟩=true):ImG (imB o p x pl) (2 * 900000000000+2) (mxI p+1).toNat:=by
 obtain ⟨hK,hmx⟩:=Zk7 hv
 refine ⟨imB_ok hK hmx,?_,Int.le_refl _,fun v hl=>(Zed hl).2.1⟩
 show Zv.fin (enF pl _ (fun q=>(List.replicate (mxI p+1).toNat (0:Int)).getD q 0) _)=.fin 0
 congr 1
 rw [Zh1 (h:=fun _=>0) fun q hq=>by
  simp only [List.getD_eq_getElem?_getD,List.getElem?_replicate]
  split<;>rfl]
 exact Zi7
theorem nb_first (hv:Zau ⟨o,p,x⟩=true):NBh (imB o p x pl) (List.replicate o.length (-1)):=by
 intro w hw hs hc
 have hw:w < o.length:=hw
 have hcf:∀ v,cF (List.replicate o.length (-1)) v = -1:=fun v=>by
  simp only [cF,List.getD_eq_getElem?_getD,List.getElem?_replicate]
  split<;>rfl
 obtain ⟨t,ht,hr⟩:=id hc
 have hown:∀ {a b:Nat},(a < o.length∧¬ hLo (imB o p x pl) a∧EdI (hOw (imB o p x pl)) (rws x) pl (cF (List.replicate o.length (-1))) a b)→o.getD a 0≠pl:=fun {a b} h ho=>by
  have h1:(b:Int)=cF (List.replicate o.length (-1)) a:=h.2.2.1 ho
  rw [hcf] at h1
  omega
 have hout:∀ z,OnC (fun a b=>a < o.length∧¬ hLo (imB o p x pl) a∧EdI (hOw (imB o p x pl)) (rws x) pl (cF (List.replicate o.length (-1))) a b) (hPr (imB o p x pl)) w t z→o.getD z 0≠pl:=fun z hz=>by
  obtain ⟨s,h1,_⟩:=Zjo ht hr hz
  exact hown h1
 have hcy:Cyc (alE o x pl) (fun v=>p.getD v 0) w:=Zex ht hr fun a b ha hb he=>by
  have h1:=hown he
  obtain ⟨z,hz,rfl⟩:=List.mem_map.1 (he.2.2.2 h1)
  exact List.mem_map.2 ⟨z,alR_mem.2 ⟨h1,hz,hout _ hb⟩,rfl⟩
 have hwo:o.getD w 0≠pl:=hout w ⟨hr,.refl _⟩
 have hpw:p.getD w 0 % 2≠pl:=by
  intro e
  have hG:=gok (validB_iff.1 hv)
  have h0:0≤p.getD w 0:=(hG.pri w hw).1
  unfold sg at hs
  rw [if_pos (by show (((p.getD w 0).toNat:Nat):Int) % 2=pl;rw [Int.toNat_of_nonneg h0];exact e)] at hs
  cases hs
 exact ht.1.2.1 ((Zh8 hw).2 ⟨w,hw,⟨⟨hwo,hpw⟩,hcy⟩,.refl _⟩)
theorem lost_sol (hv:Zau ⟨o,p,x⟩=true) (hp:pl=0∨pl=1):∃ c:Nat→Nat,(∀ v,(alLs o p x pl).getD v false=true→c v∈rws x v∧(alLs o p x pl).getD (c v) false=true)∧∀ w,(alLs o p x pl).getD w false=true→p.getD w 0 % 2=pl→¬ Cyc (fun a b=>(alLs o p x pl).getD a false=true∧b=c a) (fun v=>p.getD v 0) w:=by
 have hG:=gok (validB_iff.1 hv)
 have hK:∀ v,(alLs o p x pl).getD v false=true→v < o.length:=fun v h=>(Zed h).1
 have hno:∀ v,(alLs o p x pl).getD v false=true→o.getD v 0=1 - pl:=fun v h=>by
  have h1:=(Zed h).2.1
  rcases hG.own v (hK v h) with h2|h2<;>(have h2:o.getD v 0=_:=h2;omega)
 have hsub:∀ {a b:Nat},alE o x pl a b→b∈rws x a:=fun {a b} h=>by
  obtain ⟨z,hz,rfl⟩:=List.mem_map.1 h
  exact List.mem_map.2 ⟨z,(alR_mem.1 hz).2.1,rfl⟩
 have hEl:∀ {a b u:Nat},alE o x pl a b→Rch (alE o x pl) b u→u < o.length→alBs o p x pl u→(alLs o p x pl).getD b false=true:=fun {a b u} h hr hu hb=>by
  have hbl:b < o.length:=by
   rcases hr.uncons with rfl|⟨t,h4,_⟩
   ·exact hu
   ·obtain ⟨z,hz,_⟩:=List.mem_map.1 h4
    rcases Nat.lt_or_ge b o.length with h5|h5
    ·exact h5
    ·exfalso
     have e:x.getD b []=[]:=by
      have:x.length=o.length:=hG.xl
      rw [List.getD_eq_getElem?_getD,List.getElem?_eq_none (by omega)];rfl
     have:=(alR_mem.1 hz).2.1
     rw [e] at this;cases this
  exact (Zh8 hbl).2 ⟨u,hu,hb,hr⟩
 have htrap:Trap (fun v=>(alR o x pl v).map Int.toNat) (fun v=>(alLs o p x pl).getD v false=true):=fun v h=>by
  obtain ⟨_,_,u,h1,h2,h3⟩:=Zed h
  rcases h3.uncons with rfl|⟨t,h4,h5⟩
  ·obtain ⟨t,h4,h5⟩:=h2.2
   exact ⟨t,h4.1,hEl h4.1 (h5.mono fun a b h=>h.1) h1 h2⟩
  ·exact ⟨t,h4,hEl h4 h5 h1 h2⟩
 have hcnt:cntZ o.length (fun v=>(alLs o p x pl).getD v false)≤o.length+1:=by
  have:cntZ o.length (fun v=>(alLs o p x pl).getD v false)≤(List.range o.length).length:=List.countP_le_length
  rw [List.length_range] at this
  omega
 obtain ⟨h1,c,h2,h3⟩:=zsol (own:=fun v=>o.getD v 0) (pri:=fun v=>p.getD v 0) (sx:=fun v=>(alR o x pl v).map Int.toNat) (n:=o.length) hG.own (fun v hv=>(hG.pri v hv).1) (o.length+1) (fun v=>(alLs o p x pl).getD v false) hK hcnt htrap
 generalize winZ (fun v=>o.getD v 0) (fun v=>p.getD v 0) (fun v=>(alR o x pl v).map Int.toNat) o.length (o.length+1) (fun v=>(alLs o p x pl).getD v false)=W at *
 have hS:Sol (fun v=>o.getD v 0) (fun v=>p.getD v 0) (fun v=>(alR o x pl v).map Int.toNat) (fun v=>(alLs o p x pl).getD v false=true) W c pl∧Sol (fun v=>o.getD v 0) (fun v=>p.getD v 0) (fun v=>(alR o x pl v).map Int.toNat) (fun v=>(alLs o p x pl).getD v false=true) W c (1 - pl):=by
  rcases hp with rfl|rfl
  ·exact ⟨h2,h3⟩
  ·exact ⟨h3,h2⟩
 have hW:∀ v,(alLs o p x pl).getD v false=true→W v=1 - pl:=fun v hl=>by
  rcases Classical.em (W v=pl) with hw|hw
  ·exfalso
   obtain ⟨_,_,u,q1,q2,q3⟩:=Zed hl
   have hst:∀ a b,((alLs o p x pl).getD a false=true∧W a=pl)→(alE o x pl a b∧(alLs o p x pl).getD b false=true)→(alLs o p x pl).getD b false=true∧W b=pl:=fun a b ha hb=>⟨hb.2,hS.1.his a ha.1 ha.2 (Zed ha.1).2.1 b hb.1 hb.2⟩
   have key:∀ {a:Nat},Rch (alE o x pl) a u→((alLs o p x pl).getD a false=true∧W a=pl)→((alLs o p x pl).getD u false=true∧W u=pl):=fun {a} hr=>by
    intro ha
    have:∀ z,Rch (alE o x pl) a z→Rch (alE o x pl) z u→(alLs o p x pl).getD z false=true∧W z=pl:=by
     intro z hz
     induction hz with
     |refl=>intro _;exact ha
     |step hz' he ih =>
      intro hzu
      exact hst _ _ (ih (Rch.cons he hzu)) ⟨he,hEl he hzu q1 q2⟩
    exact this u hr (.refl _)
   obtain ⟨u1,u2⟩:=key q3 ⟨hl,hw⟩
   obtain ⟨t,t1,t2⟩:=q2.2
   refine hS.1.cyc u u1 u2 q2.1.2 (Zex t1 t2 fun a b ha hb he=>?_)
   have hin:∀ z,OnC (alE o x pl) (fun v=>p.getD v 0) u t z→(alLs o p x pl).getD z false=true∧W z=pl:=fun z hz=>by
    have r1:Rch (alE o x pl) u z:=Rch.cons t1.1 (hz.1.mono fun a b h=>h.1)
    have r2:Rch (alE o x pl) z u:=hz.2.mono fun a b h=>h.1
    have:∀ z,Rch (alE o x pl) u z→Rch (alE o x pl) z u→(alLs o p x pl).getD z false=true∧W z=pl:=by
     intro z hz
     induction hz with
     |refl=>intro _;exact ⟨u1,u2⟩
     |step hz' he ih =>
      intro hzu
      exact hst _ _ (ih (Rch.cons he hzu)) ⟨he,hEl he hzu q1 q2⟩
    exact this z r1 r2
   exact ⟨hin a ha,(hin b hb).1,fun ho=>absurd ho (Zed (hin a ha).1).2.1,fun _=>he⟩
  ·rcases h1 v hl with h|h<;>omega
 refine ⟨c,fun v hl=>?_,fun w hl hpw hc=>?_⟩
 ·obtain ⟨m1,m2,_⟩:=hS.2.mine v hl (hW v hl) (hno v hl)
  exact ⟨hsub m1,m2⟩
 ·obtain ⟨t,t1,t2⟩:=hc
  refine hS.2.cyc w hl (hW w hl) (by show p.getD w 0 % 2≠1 - pl;omega) (Zex t1 t2 fun a b ha hb he=>?_)
  obtain ⟨m1,m2,m3⟩:=hS.2.mine a he.1 (hW a he.1) (hno a he.1)
  exact ⟨⟨he.1,hW a he.1⟩,by rw [he.2];exact m2,fun _=>he.2,fun ho=>absurd (hno a he.1) ho⟩
end
section
open Go Pl
theorem sol_congr {own pri:Nat→Int} {sx:Nat→List Nat} {K:Nat→Prop} {W W':Nat→Int} {c:Nat→Nat} {q:Int} (h:∀ v,K v→W v=W' v) (hS:Sol own pri sx K W c q):Sol own pri sx K W' c q:=by
 refine ⟨fun v hv hw ho=>?_,fun v hv hw ho t ht hk=>?_,fun w hw hw2 hp hc=>?_⟩
 ·obtain ⟨a,b,d⟩:=hS.mine v hv ((h v hv).trans hw) ho
  exact ⟨a,b,(h _ b).symm.trans d⟩
 ·exact (h t hk).symm.trans (hS.his v hv ((h v hv).trans hw) ho t ht hk)
 ·refine hS.cyc w hw ((h w hw).trans hw2) hp ?_
  obtain ⟨t,t1,t2⟩:=hc
  exact Zex t1 t2 fun a b ha hb he=>⟨⟨he.1.1,(h a he.1.1).trans he.1.2⟩,he.2⟩
theorem win_uniq {g:Gm} (hV:Zc1 g) {W:Nat→Int} {c d:Nat→Nat} (hW:∀ v,v < g.own.length→W v=0∨W v=1) (h0:Sol (fun v=>g.own.getD v 0) (fun v=>g.pri.getD v 0) (rws g.nxt) (fun v=>v < g.own.length) W c 0) (h1:Sol (fun v=>g.own.getD v 0) (fun v=>g.pri.getD v 0) (rws g.nxt) (fun v=>v < g.own.length) W d 1):∀ v,v < g.own.length→(winA g).getD v 0=W v:=by
 intro v hv
 have hown:=(gok hV).own
 obtain ⟨w,e,s0,s1⟩:=Zfd hV
 rcases w v hv with a|a<;>rcases hW v hv with b|b
 ·rw [a,b]
 ·exact absurd b (Zes (fun v hv=>hv) s0 h1 hown hv a)
 ·exact absurd a (Zes (fun v hv=>hv) h0 s1 hown hv b)
 ·rw [a,b]
theorem vl_ex {h:Im} {ch:List Int} (hst:h.st.e=false):∀ (k:Nat) (u:Nat),¬ ((vIt h ch k u).e=true∧(vIt h ch k u).n=true):=by
 have hplus:∀ (v:Vl) (q:Nat),¬ (v.e=true∧v.n=true)→¬ ((Zf8 v q).e=true∧(Zf8 v q).n=true):=fun v q hv=>by
  unfold Zf8
  split
  ·exact hv
  ·intro h;cases h.1
 have hmin:∀ (l:Nat→Vl) (row:List Int) (out:Vl),(∀ u,¬ ((l u).e=true∧(l u).n=true))→¬ (out.e=true∧out.n=true)→¬ ((row.foldl (fun out w=>if cmpV h.pl (l w.toNat) out < 0 then l w.toNat else out) out).e=true∧(row.foldl (fun out w=>if cmpV h.pl (l w.toNat) out < 0 then l w.toNat else out) out).n=true):=by
  intro l row
  induction row with
  |nil=>intro out _ ho;exact ho
  |cons a row ih =>
   intro out hl ho
   rw [List.foldl_cons]
   refine ih _ hl ?_
   split
   ·exact hl _
   ·exact ho
 have hbh:∀ (l:Nat→Vl) (v:Nat),(∀ u,¬ ((l u).e=true∧(l u).n=true))→¬ ((h.bh ch l v).e=true∧(h.bh ch l v).n=true):=fun l v hl=>by
  unfold Im.bh bhV
  refine hplus _ _ ?_
  split
  ·split
   ·intro h2;rw [hst] at h2;cases h2.1
   ·exact hl _
  ·exact hmin l _ _ hl (fun h=>by cases h.2)
 have hpass:∀ (l:Nat→Vl),(∀ u,¬ ((l u).e=true∧(l u).n=true))→∀ (i:Nat) (u:Nat),¬ (((Zd4 h ch l i).1 u).e=true∧((Zd4 h ch l i).1 u).n=true):=by
  intro l hl i
  induction i with
  |zero=>exact hl
  |succ i ih =>
   intro u
   rw [Zdr]
   unfold Zj8
   split
   ·dsimp only
    split
    ·exact hbh _ _ ih
    ·exact ih u
   ·exact ih u
 intro k
 induction k with
 |zero =>
  intro u
  show ¬ ((!h.ls.getD u false)=true∧h.ls.getD u false=true)
  cases h.ls.getD u false<;>simp
 |succ k ih=>exact hpass _ ih _
variable {o p:List Int} {x:List (List Int)} {pl:Int}
theorem nev_lost (hv:Zau ⟨o,p,x⟩=true) {C:List Int} {k:Nat} (hF:FinI (imB o p x pl) (2 * 900000000000+2) (mxI p+1).toNat C k) {v:Nat} (hvn:v < o.length) (hn:eF (imB o p x pl) (2 * 900000000000+2) (mxI p+1).toNat (vIt (imB o p x pl) C k) v=.nev):(alLs o p x pl).getD v false=true:=by
 have G:=Zn5 (pl:=pl) hv
 have hK:=(Zk7 hv).1
 have F:=hF.chi.fx G
 have hV:=Zol G.ok G.st (by decide) (by decide) hF.chi.ok.len hF.chi.ok.lt (Zje G.ok hF.chi.ok.lt) k hF.chi.kn
 generalize hl:eF (imB o p x pl) (2 * 900000000000+2) (mxI p+1).toNat (vIt (imB o p x pl) C k)=l at *
 have key:∀ {L:List Nat} {z:Zv},Wl (hOw (imB o p x pl)) (rws x) pl (hLo (imB o p x pl)) (wtF pl (2 * 900000000000+2) (hPr (imB o p x pl))) (cF C) L z→∀ a L',L=a :: L'→a < o.length→z=.nev→(alLs o p x pl).getD a false=true:=by
  intro L z hw
  induction hw with
  |lost hlo=>intro a L' e ha _;injection e with e1 _;rw [←e1];exact hlo
  |stop _ _ _=>intro a L' _ _ hz;cases hz
  |@step v u L2 y h1 h2 h3 ih =>
   intro a L' e ha hz
   injection e with e1 _
   subst e1
   have hy:y=.nev:=by
    cases y with
    |nev=>rfl
    |fin _=>cases hz
    |evr=>cases hz
   have hun:u < o.length:=Zn7 G.ok hF.chi.ok.len hF.chi.ok.lt (v:=v) ha h2
   have hlu:=ih u L2 rfl hun hy
   by_cases ho:hOw (imB o p x pl) v=pl
   ·exfalso
    have hcu:(u:Int)=cF C v:=h2.1 ho
    have:=hF.chi.hch v ha ho (by omega)
    rw [←hcu,Int.toNat_natCast,hl] at this
    exact this (F.ls u hun hlu)
   ·exact lost_step hK ha ho (h2.2 ho) hlu
 rcases hV.snd v hvn with e|⟨l',hw⟩
 ·rw [e] at hn;cases hn
 ·exact key hw v l' rfl hvn hn
theorem fin_win (hv:Zau ⟨o,p,x⟩=true) (hp:pl=0∨pl=1) {C:List Int} {k:Nat} (hF:FinI (imB o p x pl) (2 * 900000000000+2) (mxI p+1).toNat C k) :
  (∀ v,v < o.length→((vIt (imB o p x pl) C k v).e=true↔(winA ⟨o,p,x⟩).getD v 0=pl))∧Sol (fun v=>o.getD v 0) (fun v=>p.getD v 0) (rws x) (fun v=>v < o.length) (fun v=>(winA ⟨o,p,x⟩).getD v 0) (fun v=>(C.getD v 0).toNat) pl∧∀ v,v < o.length→o.getD v 0=pl→(winA ⟨o,p,x⟩).getD v 0=pl→C.getD v 0∈x.getD v []:=by
 have hV:=validB_iff.1 hv
 have hG:=gok hV
 have G:=Zn5 (pl:=pl) hv
 have F:=hF.chi.fx G
 have hnev:=fun v (hvn:v < o.length)=>nev_lost (pl:=pl) hv hF (v:=v) hvn
 have hno:=hF.no
 have hrow:=hF.chi.row
 have hnb:=hF.chi.ok.nb
 have hCl:C.length=o.length:=hF.chi.ok.len
 have hClt:∀ v,v < o.length→C.getD v 0 < o.length:=hF.chi.ok.lt
 have hdig:=Zn8 (B:=2 * 900000000000+2) G.ok hF.chi.ok hF.chi.kn
 have hpri:∀ v,v < o.length→0≤hPr (imB o p x pl) v∧(hPr (imB o p x pl) v).toNat < (mxI p+1).toNat:=fun v hv=>G.ok.p0 v hv
 have hev:∀ v,(vIt (imB o p x pl) C k v).e=true↔eF (imB o p x pl) (2 * 900000000000+2) (mxI p+1).toNat (vIt (imB o p x pl) C k) v=.evr:=fun v=>by
  have hx:=vl_ex (h:=imB o p x pl) (ch:=C) rfl k v
  show _↔enV pl _ _ (vIt (imB o p x pl) C k v)=.evr
  unfold enV
  cases h1:(vIt (imB o p x pl) C k v).n with
  |true =>
   rw [if_pos rfl]
   exact ⟨fun h=>absurd ⟨h,h1⟩ hx,fun h=>by cases h⟩
  |false =>
   rw [if_neg (by decide)]
   cases h2:(vIt (imB o p x pl) C k v).e with
   |true=>exact ⟨fun _=>if_pos rfl,fun _=>rfl⟩
   |false=>rw [if_neg (by decide)];exact ⟨fun h=>(by cases h),fun h=>(by cases h)⟩
 generalize eF (imB o p x pl) (2 * 900000000000+2) (mxI p+1).toNat (vIt (imB o p x pl) C k)=l at *
 have hcf:∀ v,v < o.length→cF C v=C.getD v 0:=fun v hv=>Zl4 (by omega)
 have hlost:∀ v,(alLs o p x pl).getD v false=true→l v=.nev:=fun v h=>F.ls v (Zed h).1 h
 have hoth:∀ v,v < o.length→o.getD v 0≠pl→o.getD v 0=1 - pl:=fun v hv ho=>by
  rcases hG.own v hv with h2|h2<;>(have h2:o.getD v 0=_:=h2;omega)
 have hpm:pl≠1 - pl:=by omega
 obtain ⟨cl,l1,l2⟩:=lost_sol hv hp
 -- the other one's choices
 have hd:∀ v,∃ u,v < o.length→o.getD v 0≠pl→l v≠.evr→u∈rws x v∧l u≠.evr∧((alLs o p x pl).getD v false=true→u=cl v)∧((alLs o p x pl).getD v false≠true→l v=(l u).add (wtF pl (2 * 900000000000+2) (hPr (imB o p x pl)) v)):=fun v=>by
  by_cases hc:v < o.length∧o.getD v 0≠pl∧l v≠.evr
  ·obtain ⟨hvn,ho,hl⟩:=hc
   by_cases hlo:(alLs o p x pl).getD v false=true
   ·refine ⟨cl v,fun _ _ _=>⟨(l1 v hlo).1,?_,fun _=>rfl,fun h=>absurd hlo h⟩⟩
    rw [hlost _ (l1 v hlo).2];intro h;cases h
   ·have hb:=F.fx v hvn hlo
    rcases hb.ex with e|⟨h1,_⟩|⟨u,h1,h2⟩
    ·exact absurd e hl
    ·exact absurd h1 ho
    ·refine ⟨u,fun _ _ _=>⟨h1.2 ho,fun e=>?_,fun h=>absurd h hlo,fun _=>h2⟩⟩
     rw [e] at h2
     exact hl h2
  ·exact ⟨0,fun a b c=>absurd ⟨a,b,c⟩ hc⟩
 obtain ⟨d,hd⟩:=Classical.axiomOfChoice hd
 have hW01:∀ v,(open Classical in if l v=.evr then pl else 1 - pl)=0∨(open Classical in if l v=.evr then pl else 1 - pl)=1:=fun v=>by split<;>omega
 obtain ⟨W,hWd⟩:∃ W:Nat→Int,∀ v,(W v=pl↔l v=.evr)∧(W v=1 - pl↔l v≠.evr):=⟨fun v=>open Classical in if l v=.evr then pl else 1 - pl,fun v=>by
  dsimp only
  split
  ·rename_i h;exact ⟨⟨fun _=>h,fun _=>rfl⟩,⟨fun h2=>by omega,fun h2=>absurd h h2⟩⟩
  ·rename_i h;exact ⟨⟨fun h2=>by omega,fun h2=>absurd h2 h⟩,⟨fun _=>h,fun _=>rfl⟩⟩⟩
 have hWv:∀ v,W v=0∨W v=1:=fun v=>by
  by_cases h:l v=.evr
  ·have:=(hWd v).1.2 h;omega
  ·have:=(hWd v).2.2 h;omega
 have hrl:∀ v u,v < o.length→u∈rws x v→u < o.length:=fun v u hv hu=>hG.row v hv u hu
 have hcev:∀ v,v < o.length→o.getD v 0=pl→l v=.evr→C.getD v 0∈x.getD v []∧0≤C.getD v 0∧l (C.getD v 0).toNat=.evr:=fun v hvn ho he=>by
  have e:=Zit F hvn ho
  rw [he] at e
  unfold nowZ at e
  split at e
  ·cases e
  ·rename_i h2
   rw [hcf v hvn] at h2 e
   rcases (hrow v hvn).1 ho with h3|h3
   ·omega
   ·refine ⟨h3,by omega,?_⟩
    cases h4:l (C.getD v 0).toNat with
    |evr=>rfl
    |nev=>rw [h4] at e;cases e
    |fin y=>rw [h4] at e;cases e
 have S1:Sol (fun v=>o.getD v 0) (fun v=>p.getD v 0) (rws x) (fun v=>v < o.length) W (fun v=>(C.getD v 0).toNat) pl:=by
  refine ⟨fun v hvn hw ho=>?_,fun v hvn hw ho t ht htn=>?_,fun w hwn hw hpw hc=>?_⟩
  ·obtain ⟨a,b,e⟩:=hcev v hvn ho ((hWd v).1.1 hw)
   have:=hClt v hvn
   exact ⟨List.mem_map.2 ⟨_,a,rfl⟩,by omega,(hWd _).1.2 e⟩
  ·have he:=(hWd v).1.1 hw
   have hnl:¬ hLo (imB o p x pl) v:=fun h=>by rw [hlost v h] at he;cases he
   have:=(F.fx v hvn hnl).le t ⟨fun h=>absurd h ho,fun _=>ht⟩
   rw [he] at this
   have:=Zv.evr_le this
   refine (hWd t).1.2 ?_
   cases h4:l t with
   |evr=>rfl
   |nev=>rw [h4] at this;cases this
   |fin y=>rw [h4] at this;cases this
  ·have h0:=hpri w hwn
   refine hnb w hwn ?_ ?_
   ·unfold sg
    rw [if_neg]
    rw [Int.toNat_of_nonneg h0.1]
    exact hpw
   ·obtain ⟨t,t1,t2⟩:=hc
    refine Zex t1 t2 fun a b ha hb he=>⟨he.1.1,fun hl=>?_,fun ho=>?_,he.2.2.2⟩
    ·have:=(hWd a).1.1 he.1.2
     rw [hlost a hl] at this;cases this
    ·have h1:=he.2.2.1 ho
     have h2:=(hcev a he.1.1 ho ((hWd a).1.1 he.1.2)).2.1
     show (b:Int)=cF C a
     rw [hcf a he.1.1,h1,Int.toNat_of_nonneg h2]
 have S2:Sol (fun v=>o.getD v 0) (fun v=>p.getD v 0) (rws x) (fun v=>v < o.length) W d (1 - pl):=by
  refine ⟨fun v hvn hw ho=>?_,fun v hvn hw ho t ht htn=>?_,fun w hwn hw hpw hc=>?_⟩
  ·have ho2:o.getD v 0≠pl:=fun e=>by have ho:o.getD v 0=1 - pl:=ho;omega
   obtain ⟨a,b,_⟩:=hd v hvn ho2 ((hWd v).2.1 hw)
   exact ⟨a,hrl v _ hvn a,(hWd _).2.2 b⟩
  ·have ho2:o.getD v 0=pl:=Classical.byContradiction fun h=>ho (hoth v hvn h)
   have he:=(hWd v).2.1 hw
   refine (hWd t).2.2 fun e=>he ?_
   have h1:=hno v hvn ho2 t ht
   rw [e] at h1
   rw [Zit F hvn ho2,Zv.evr_le h1];rfl
  ·have hpw2:p.getD w 0 % 2=pl:=by
    have:=Int.emod_two_eq (p.getD w 0)
    have hpw:p.getD w 0 % 2≠1 - pl:=hpw
    omega
   obtain ⟨t,t1,t2⟩:=id hc
   have hed:∀ a b,Stp (fun v=>o.getD v 0) (rws x) (fun v=>v < o.length) W d (1 - pl) a b→(alLs o p x pl).getD a false=true→b=cl a∧(alLs o p x pl).getD b false=true:=fun a b he hl=>by
    have ho:=(Zed hl).2.1
    obtain ⟨_,_,e,_⟩:=hd a he.1.1 ho ((hWd a).2.1 he.1.2)
    have h1:=he.2.2.1 (hoth a he.1.1 ho)
    rw [e hl] at h1
    exact ⟨h1,by rw [h1];exact (l1 a hl).2⟩
   by_cases hlw:(alLs o p x pl).getD w false=true
   ·refine l2 w hlw hpw2 ?_
    have hall:∀ z,OnC (Stp (fun v=>o.getD v 0) (rws x) (fun v=>v < o.length) W d (1 - pl)) (fun v=>p.getD v 0) w t z→(alLs o p x pl).getD z false=true:=fun z hz=>Rch.closed (C:=fun z=>(alLs o p x pl).getD z false=true) (fun a b ha he=>(hed a b he.1 ha).2) hz.1 ((hed w t t1.1 hlw).2)
    exact Zex t1 t2 fun a b ha hb he=>⟨hall a ha,(hed a b he (hall a ha)).1⟩
   ·have hall:∀ z,OnC (Stp (fun v=>o.getD v 0) (rws x) (fun v=>v < o.length) W d (1 - pl)) (fun v=>p.getD v 0) w t z→(alLs o p x pl).getD z false≠true:=fun z hz hl=>hlw (Rch.closed (C:=fun z=>(alLs o p x pl).getD z false=true) (fun a b ha he=>(hed a b he.1 ha).2) hz.2 hl)
    have hfin:∀ z,z < o.length→l z≠.evr→(alLs o p x pl).getD z false≠true→∃ y,l z=.fin y:=fun z hz h1 h2=>by
     cases h3:l z with
     |nev=>exact absurd (hnev z hz h3) h2
     |evr=>exact absurd h3 h1
     |fin y=>exact ⟨y,rfl⟩
    refine cyc_down (pl:=pl) (B:=2 * 900000000000+2) (D:=900000000000) (l:=l) (n:=o.length) (pri:=hPr (imB o p x pl)) (E:=fun a b=>Stp (fun v=>o.getD v 0) (rws x) (fun v=>v < o.length) W d (1 - pl) a b∧(alLs o p x pl).getD a false≠true∧(alLs o p x pl).getD b false≠true∧W b=1 - pl) hp (by decide) (Int.le_refl _) hdig hpri (fun a b he=>?_) (w:=w) ?_ ?_
    ·obtain ⟨hst,n1,n2,n3⟩:=he
     have han:=hst.1.1
     obtain ⟨y1,e1⟩:=hfin a han ((hWd a).2.1 hst.1.2) n1
     obtain ⟨y2,e2⟩:=hfin b hst.2.1 ((hWd b).2.1 n3) n2
     refine ⟨han,hst.2.1,y1,y2,e1,e2,?_⟩
     by_cases ho:o.getD a 0=pl
     ·have hs:=hst.2.2.2 (fun h=>by have h:o.getD a 0=1 - pl:=h;omega)
      have h1:=hno a han ho b hs
      have h2:=Zit F han ho
      have h3:=Zv.add_mono (x:=wtF pl (2 * 900000000000+2) (hPr (imB o p x pl)) a) h1
      rw [show wtF (imB o p x pl).pl (2 * 900000000000+2) (hPr (imB o p x pl)) a=wtF pl (2 * 900000000000+2) (hPr (imB o p x pl)) a from rfl] at h2
      rw [←h2,e1,e2] at h3
      exact h3
     ·have hb:=hst.2.2.1 (hoth a han ho)
      obtain ⟨_,_,_,q⟩:=hd a han ho ((hWd a).2.1 hst.1.2)
      have q:=q n1
      rw [←hb,e1,e2] at q
      injection q with q
      omega
    ·unfold sg
     rw [if_pos]
     rw [Int.toNat_of_nonneg (hpri w hwn).1]
     exact hpw2
    ·exact Zex t1 t2 fun a b ha hb he=>⟨he,hall a ha,hall b hb,by
      obtain ⟨s,h1,_⟩:=Zjo t1 t2 hb
      exact h1.1.2⟩
 have huniq:∀ v,v < o.length→(winA ⟨o,p,x⟩).getD v 0=W v:=by
  rcases hp with rfl|rfl
  ·exact win_uniq hV (fun v _=>hWv v) S1 S2
  ·exact win_uniq hV (fun v _=>hWv v) S2 S1
 refine ⟨fun v hvn=>?_,sol_congr (fun v hvn=>(huniq v hvn).symm) S1,fun v hvn ho hw=>?_⟩
 ·rw [hev,huniq v hvn,(hWd v).1]
 ·rw [huniq v hvn] at hw
  exact (hcev v hvn ho ((hWd v).1.1 hw)).1
theorem best_ex (hv:Zau ⟨o,p,x⟩=true) (hp:pl=0∨pl=1):∃ R k L C,BRun (imB o p x pl) R (List.replicate o.length (-1)) k L C∧C.length=o.length∧(∀ v,v < o.length→((L v).e=true↔(winA ⟨o,p,x⟩).getD v 0=pl))∧Sol (fun v=>o.getD v 0) (fun v=>p.getD v 0) (rws x) (fun v=>v < o.length) (fun v=>(winA ⟨o,p,x⟩).getD v 0) (fun v=>(C.getD v 0).toNat) pl∧∀ v,v < o.length→o.getD v 0=pl→(winA ⟨o,p,x⟩).getD v 0=pl→C.getD v 0∈x.getD v []:=by
 have G:=Zn5 (pl:=pl) hv
 have h1:∀ v,v < o.length→(List.replicate o.length (-1:Int)).getD v 0 = -1:=fun v hv=>by
  simp [List.getD_eq_getElem?_getD,hv]
 have hcf:∀ v,cF (List.replicate o.length (-1)) v = -1:=fun v=>by
  simp only [cF,List.getD_eq_getElem?_getD,List.getElem?_replicate]
  split<;>rfl
 have hok:ChOK (imB o p x pl) (List.replicate o.length (-1)):=⟨List.length_replicate ..,fun v hvn=>by
  have:=h1 v hvn
  show _ < (o.length:Int)
  omega,nb_first hv⟩
 obtain ⟨k,hk,hE⟩:=vend_ex G.ok G.st (by decide) hok
 have hC:ChI (imB o p x pl) (2 * 900000000000+2) (mxI p+1).toNat (List.replicate o.length (-1)) k:=⟨hok,hk,hE,fun v _ _ hc=>by rw [hcf] at hc;exact absurd hc (by decide),fun v hvn=>⟨fun _=>.inl (h1 v hvn),fun _=>h1 v hvn⟩⟩
 obtain ⟨r,L,C,kf,q1,rfl,q3⟩:=brun_ex G _ _ _ hC (Nat.le_refl _)
 obtain ⟨f1,f2,f3⟩:=fin_win hv hp q3
 exact ⟨r,k,_,C,q1,q3.chi.ok.len,f1,f2,f3⟩
end
end Go.Proofs.YtjcmlflljibikaaGreatDoor.Cal
