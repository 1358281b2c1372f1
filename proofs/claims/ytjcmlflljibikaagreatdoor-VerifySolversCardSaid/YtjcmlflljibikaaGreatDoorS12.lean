/- Own texts, merged. -/
import Derived.Test.YtjcmlflljibikaaGreatDoorS11
set_option linter.unusedVariables false
set_option linter.unusedSimpArgs false
open Nat (reduceAdd reduceSub reduceMul reduceEqDiff reduceLeDiff reduceLT)
namespace Go.Proofs.YtjcmlflljibikaaGreatDoor.Cal
open Go
section
variable {P:Program} {ro:Option Nat} {N κ:Nat}
theorem awp_avs {c:Code} {m:Nat} {env:List (Nat × AV)} {rs:List (Nat × Option Blk)} {ms:List Nat} {Q:Exit→St→Prop} (k:Nat) {sz n:Nat} {f:Nat→AV} (f':Nat→AV) (hk:lkr rs k=some (.avs sz n f)) (hf:∀ j,j < n→f j=f' j) {rs':List (Nat × Option Blk)} (hrs:set1 k (.avs sz n f') rs=rs')
  (h:awp P ro N κ c (CS.st ⟨m,env,rs',ms⟩) Q):awp P ro N κ c (CS.st ⟨m,env,rs,ms⟩) Q:=by
 intro n0 K Z ν w a hg
 refine h n0 K Z ν w a { hg with rs:=?_ }
 subst hrs
 obtain ⟨Ft,hF⟩:=hg.rs
 have e:(CS.st ⟨m,env,set1 k (.avs sz n f') rs,ms⟩).rs=fun j=>if j=k then some (.avs sz n f') else lkr rs j:=Zf1
 refine ⟨Ft,fun j b hj=>?_⟩
 rw [e] at hj
 have hold:∀ j' b',(CS.st ⟨m,env,set1 k (.avs sz n f') rs,ms⟩).rs j'=some b'→∃ b0,lkr rs j'=some b0:=fun j' b' h'=>by
  rw [e] at h'
  dsimp only at h'
  by_cases h1:j'=k
  ·rw [h1];exact ⟨_,hk⟩
  ·rw [if_neg h1] at h';exact ⟨_,h'⟩
 dsimp only at hj
 by_cases h1:j=k
 ·rw [if_pos h1] at hj
  cases hj
  subst h1
  obtain ⟨a1,a2,a3,a4,a5⟩:=hF j _ hk
  refine ⟨a1,fun i hi=>?_,?_,a4,fun j' b' hne hj'=>?_⟩
  ·rw [←hf i hi];exact a2 i hi
  ·exact Za3 (fun _ _=>rfl) (fun i es hi h=>by rw [←hf i hi];exact h) a3
  ·obtain ⟨b0,h0⟩:=hold j' b' hj'
   exact a5 j' b0 hne h0
 ·rw [if_neg h1] at hj
  obtain ⟨a1,a2,a3,a4,a5⟩:=hF j b hj
  refine ⟨a1,a2,a3,a4,fun j' b' hne hj'=>?_⟩
  obtain ⟨b0,h0⟩:=hold j' b' hj'
  exact a5 j' b0 hne h0
end
def nro : AV→AV
 |.cst v=>match isNilS v with|true=>.roI []|false=>.cst v
 |.agg l=>.agg (nro l)
 |.cons a b=>.cons (nro a) (nro b)
 |u=>u
theorem Znj {Z:Nat→Prop} {w:World} {ν:Nat→Value}:∀ {u:AV} {m:Bool} {cs:List Value},R Z w u ν m cs→R Z w (nro u) ν m cs
 |.cst v,m,cs,h=>by
  unfold nro
  cases hv:isNilS v with
  |false=>exact h
  |true =>
   have:=Zi6 hv
   subst this
   have h:cs=[_]:=h
   exact ⟨none,0,h,Nat.le_refl _,Nat.zero_le _,fun h=>absurd h (Nat.lt_irrefl _)⟩
 |.agg l,true,cs,h=>by
  obtain ⟨es,e,r⟩:=h
  exact ⟨es,e,Znj r⟩
 |.agg l,false,cs,h=>Znj (u:=l) (m:=true) h
 |.cons a b,m,cs,h=>by
  obtain ⟨v,vs,e,r1,r2⟩:=h
  exact ⟨v,vs,e,Znj r1,Znj r2⟩
 |.any,_,_,h=>h
 |.int _ _,_,_,h=>h
 |.bool _,_,_,h=>h
 |.own _,_,_,h=>h
 |.adr _ _ _ _,_,_,h=>h
 |.roI _,_,_,h=>h
 |.roB _,_,_,h=>h
 |.roII _,_,_,h=>h
 |.ro _ _ _,_,_,h=>h
 |.rop _,_,_,h=>h
 |.tup _,_,_,h=>h
 |.nil,_,_,h=>h
 |.fn _ _,_,_,h=>h
 |.yld _,_,_,h=>h
 |.whn _ _,_,_,h=>h
theorem Zjp {μ:Nat→Bool}:∀ {u:AV},men μ u=true→men μ (nro u)=true
 |.cst v,_=>by unfold nro;cases isNilS v<;>rfl
 |.agg l,h=>Zjp (u:=l) h
 |.cons a b,h=>by
  simp only [men,Bool.and_eq_true] at h
  show (men μ (nro a) && men μ (nro b))=true
  rw [Zjp h.1,Zjp h.2];rfl
 |.any,h=>h
 |.int _ _,h=>h
 |.bool _,h=>h
 |.own _,h=>h
 |.adr _ _ _ _,h=>h
 |.roI _,h=>h
 |.roB _,h=>h
 |.roII _,h=>h
 |.ro _ _ _,h=>h
 |.rop _,h=>h
 |.tup _,h=>h
 |.nil,h=>h
 |.fn _ _,h=>h
 |.yld _,h=>h
 |.whn _ _,h=>h
section
variable {P:Program} {ro:Option Nat} {N κ:Nat}
theorem Zlp {c:Code} {m:Nat} {env:List (Nat × AV)} {rs:List (Nat × Option Blk)} {ms:List Nat} {Q:Exit→St→Prop} (k:Nat) {u:AV} (hk:lkr rs k=some (.box u)) {rs':List (Nat × Option Blk)} (hrs:set1 k (.box (nro u)) rs=rs')
  (h:awp P ro N κ c (CS.st ⟨m,env,rs',ms⟩) Q):awp P ro N κ c (CS.st ⟨m,env,rs,ms⟩) Q:=by
 intro n K Z ν w a hg
 refine h n K Z ν w a { hg with rs:=?_ }
 subst hrs
 obtain ⟨Ft,hF⟩:=hg.rs
 have e:(CS.st ⟨m,env,set1 k (.box (nro u)) rs,ms⟩).rs=fun j=>if j=k then some (.box (nro u)) else lkr rs j:=Zf1
 refine ⟨Ft,fun j b hj=>?_⟩
 rw [e] at hj
 have hold:∀ j' b',(CS.st ⟨m,env,set1 k (.box (nro u)) rs,ms⟩).rs j'=some b'→∃ b0,lkr rs j'=some b0:=fun j' b' h'=>by
  rw [e] at h'
  dsimp only at h'
  by_cases h1:j'=k
  ·rw [h1];exact ⟨_,hk⟩
  ·rw [if_neg h1] at h';exact ⟨_,h'⟩
 dsimp only at hj
 by_cases h1:j=k
 ·rw [if_pos h1] at hj
  cases hj
  subst h1
  obtain ⟨a1,a2,a3,a4,a5⟩:=hF j _ hk
  refine ⟨a1,Zjp a2,?_,a4,fun j' b' hne hj'=>?_⟩
  ·obtain ⟨b,cells,T,hx,hb,r,hFb⟩:=a3
   exact ⟨b,cells,T,hx,hb,Znj r,hFb⟩
  ·obtain ⟨b0,h0⟩:=hold j' b' hj'
   exact a5 j' b0 hne h0
 ·rw [if_neg h1] at hj
  obtain ⟨a1,a2,a3,a4,a5⟩:=hF j b hj
  refine ⟨a1,a2,a3,a4,fun j' b' hne hj'=>?_⟩
  obtain ⟨b0,h0⟩:=hold j' b' hj'
  exact a5 j' b0 hne h0
end
section
variable {P:Program} {ro:Option Nat} {N κ:Nat}
theorem awp_nroA {c:Code} {m:Nat} {env:List (Nat × AV)} {rs:List (Nat × Option Blk)} {ms:List Nat} {Q:Exit→St→Prop} (k:Nat) {sz n:Nat} {f:Nat→AV} (f':Nat→AV) (hk:lkr rs k=some (.avs sz n f)) (hf:∀ j,j < n→nro (f j)=f' j) {rs':List (Nat × Option Blk)} (hrs:set1 k (.avs sz n f') rs=rs')
  (h:awp P ro N κ c (CS.st ⟨m,env,rs',ms⟩) Q):awp P ro N κ c (CS.st ⟨m,env,rs,ms⟩) Q:=by
 intro n0 K Z ν w a hg
 refine h n0 K Z ν w a { hg with rs:=?_ }
 subst hrs
 obtain ⟨Ft,hF⟩:=hg.rs
 have e:(CS.st ⟨m,env,set1 k (.avs sz n f') rs,ms⟩).rs=fun j=>if j=k then some (.avs sz n f') else lkr rs j:=Zf1
 refine ⟨Ft,fun j b hj=>?_⟩
 rw [e] at hj
 have hold:∀ j' b',(CS.st ⟨m,env,set1 k (.avs sz n f') rs,ms⟩).rs j'=some b'→∃ b0,lkr rs j'=some b0:=fun j' b' h'=>by
  rw [e] at h'
  dsimp only at h'
  by_cases h1:j'=k
  ·rw [h1];exact ⟨_,hk⟩
  ·rw [if_neg h1] at h';exact ⟨_,h'⟩
 dsimp only at hj
 by_cases h1:j=k
 ·rw [if_pos h1] at hj
  cases hj
  subst h1
  obtain ⟨a1,a2,a3,a4,a5⟩:=hF j _ hk
  refine ⟨a1,fun i hi=>?_,?_,a4,fun j' b' hne hj'=>?_⟩
  ·rw [←hf i hi];exact Zjp (a2 i hi)
  ·exact Za3 (fun _ _=>rfl) (fun i es hi h=>by rw [←hf i hi];exact Znj h) a3
  ·obtain ⟨b0,h0⟩:=hold j' b' hj'
   exact a5 j' b0 hne h0
 ·rw [if_neg h1] at hj
  obtain ⟨a1,a2,a3,a4,a5⟩:=hF j b hj
  refine ⟨a1,a2,a3,a4,fun j' b' hne hj'=>?_⟩
  obtain ⟨b0,h0⟩:=hold j' b' hj'
  exact a5 j' b0 hne h0
end
open Go Pl
def msA (m:Bool × List Int):AV:=.agg (.cons (.bool m.1) (.cons (.roI m.2) .nil))
theorem peta (a:Bool × List Int):(a.1,a.2)=a:=rfl
def mOf : AV→Bool × List Int
 |.agg (.cons (.bool t) (.cons (.roI xs) .nil))=>(t,xs)
 |_=>(true,[])
def mlF (many:List Int) (n:Nat) (F:Nat→Bool × List Int):List Int:=(List.range n).map fun j=>enM many (F j)
theorem mlF_get {many:List Int} {n j:Nat} {F:Nat→Bool × List Int} (hj:j < n):(mlF many n F).getD j 0=enM many (F j):=by simp [mlF,List.getD_eq_getElem?_getD,hj]
def bC (g:Gm) (odd many l:List Int) (v:Nat):Nat→Int
 |0 => -1
 |r+1=>if r=0∨(g.own.getD v 0=0∧askV g odd many l v r < bB g odd many l v r)∨(g.own.getD v 0≠0∧bB g odd many l v r < askV g odd many l v r) then (g.nxt.getD v []).getD r 0 else bC g odd many l v r
structure SOK (odd many:List Int):Prop where
 len:odd.length=many.length
 l100:odd.length≤100
 bd:∀ i,many.getD i 0≤1000000000
 ps:posL many
noncomputable def bestS14 : Spec
 |[.agg (.cons (.roI odd) (.cons (.roI many) .nil)),.agg (.cons (.roI o) (.cons (.roI p) (.cons (.roII x) .nil))),.ro 2 n f,.int .i64 v] =>
  some ⟨SOK odd many∧Zau ⟨o,p,x⟩=true∧n=o.length∧(f=fun j=>msA (mOf (f j)))∧(∀ j,j < n→okM many (mOf (f j)))∧0≤v∧v < (n:Int),
   .tup (.cons (.agg (.cons (.bool (deM many (Ze0 ⟨o,p,x⟩ odd many (mlF many n fun j=>mOf (f j)) v.toNat)).1) (.cons (.roI (deM many (Ze0 ⟨o,p,x⟩ odd many (mlF many n fun j=>mOf (f j)) v.toNat)).2) .nil))) (.cons (.int .i64 (bC ⟨o,p,x⟩ odd many (mlF many n fun j=>mOf (f j)) v.toNat (x.getD v.toNat []).length)) .nil)),none⟩
 |_=>none
noncomputable def spBe14 : Nat→Option Spec
 |62=>some progS
 |61=>some lessS
 |_=>none
theorem Zb9 : SpOK Tryz.prog spBe14:=by
 intro f S h
 unfold spBe14 at h
 split at h
 ·cases h;exact prog_ok
 ·cases h;exact less_ok
 ·cases h
def Zbd := Hd.mk (And.intro @spBe14.eq_1<|And.intro @spBe14.eq_2<|And.intro @progS.eq_1<|And.intro @lessS.eq_1<|And.intro @msA.eq_1<|And.intro @nro.eq_1<|And.intro @nro.eq_2<|And.intro @nro.eq_3<|And.intro @nro.eq_4<|@isNilS.eq_1)
set_option maxRecDepth 4000 in
set_option maxHeartbeats 4000000 in
theorem best_ok14 : Zcn Tryz.prog 35 bestS14:=by
 refine Zaw htb (fn:=Tryz.f35) (by kernel_rfl) (by kernel_rfl) rfl (fun args r hS=>?_) (fun args r hS hob hl=>?_)
 ·unfold bestS14 at hS;split at hS<;>first|(cases hS;done)|(cases hS;exact Nat.le_of_ble_eq_true rfl)
 unfold bestS14 at hS
 split at hS
 case h_2=>cases hS
 rename_i odd many o p x n f v
 simp only [Option.some.injEq] at hS
 subst hS
 simp only [lenP,mkL,lim] at hl
 dsimp only at hob
 obtain ⟨hS,hv,rfl,hf,hok,hv0,hv1⟩:=hob
 obtain ⟨v,rfl⟩:=Int.eq_ofNat_of_zero_le hv0
 obtain ⟨F,hF⟩:∃ F:Nat→Bool × List Int,∀ j,mOf (f j)=F j:=⟨_,fun _=>rfl⟩
 have hf:f=fun j=>msA (F j):=by rw [hf];funext j;rw [hF]
 have hF':(fun j=>mOf (f j))=F:=funext hF
 simp only [hF'] at hok ⊢
 simp only [hF] at hok
 subst hf
 clear hF hF'
 simp only [Int.toNat_natCast]
 have hvn:v < o.length:=by omega
 have hV:=validB_iff.1 hv
 obtain ⟨hn,hpl,hxl,hpos⟩:=id hV
 simp only [Gm.n] at hn hpl hxl
 have hrl:(x.getD v []).length≤64∧1≤(x.getD v []).length:=by
  obtain ⟨⟨a1,a2,a3,a4,a5,a6⟩,_⟩:=hpos v (by simp only [Gm.n];omega)
  exact ⟨a6,a5⟩
 have hrb:∀ j,j < (x.getD v []).length→0≤(x.getD v []).getD j 0∧(x.getD v []).getD j 0 < o.length:=fun j hj=>by
  obtain ⟨_,hr⟩:=hpos v (by simp only [Gm.n];omega)
  exact ⟨(hr j hj).1,(hr j hj).2.1⟩
 have hpr:0≤p.getD v 0∧p.getD v 0≤60:=by
  obtain ⟨⟨a1,a2,a3,a4,_,a6⟩,_⟩:=hpos v (by simp only [Gm.n];omega)
  exact ⟨a3,a4⟩
 have how:0≤o.getD v 0∧o.getD v 0≤1:=by
  obtain ⟨⟨a1,a2,a3,a4,_,a6⟩,_⟩:=hpos v (by simp only [Gm.n];omega)
  exact ⟨a1,a2⟩
 generalize hL:mlF many o.length F=L
 have hLg:∀ j,j < o.length→L.getD j 0=enM many (F j):=fun j hj=>by rw [←hL];exact mlF_get hj
 have hask:∀ r,r < (x.getD v []).length→askV ⟨o,p,x⟩ odd many L v r=Zcu odd many (enM many (F ((x.getD v []).getD r 0).toNat)) (p.getD v 0):=fun r hr=>by
  have h1:=hrb r hr
  show Zcu odd many (L.getD ((x.getD v []).getD r 0).toNat 0) (p.getD v 0)=_
  rw [hLg _ (by omega)]
 have haskb:∀ r,r < (x.getD v []).length→0≤askV ⟨o,p,x⟩ odd many L v r∧askV ⟨o,p,x⟩ odd many L v r≤rpr many:=fun r hr=>by
  have h1:=hrb r hr
  have h2:=okM_bd hS.ps (hok ((x.getD v []).getD r 0).toNat (by omega))
  rw [hask r hr]
  exact Zhp hS.ps h2.1 h2.2
 have hbb:∀ r,r≤(x.getD v []).length→0 < r→0≤bB ⟨o,p,x⟩ odd many L v r∧bB ⟨o,p,x⟩ odd many L v r≤rpr many:=fun r hr h0=>by
  by_cases h:o.getD v 0=0
  ·obtain ⟨_,i,h1,h2⟩:=Zj1 (g:=⟨o,p,x⟩) (odd:=odd) (many:=many) (l:=L) h h0
   rw [h2];exact haskb i (by omega)
  ·obtain ⟨_,i,h1,h2⟩:=Ziv (g:=⟨o,p,x⟩) (odd:=odd) (many:=many) (l:=L) h h0
   rw [h2];exact haskb i (by omega)
 have hcc:∀ r,0 < r→r≤(x.getD v []).length→0≤bC ⟨o,p,x⟩ odd many L v r:=by
  intro r
  induction r with
  |zero=>intro h;exact absurd h (Nat.lt_irrefl _)
  |succ r ih =>
   intro _ hr
   unfold bC
   split
   ·exact (hrb r (by omega)).1
   ·rename_i h
    have:r≠0:=fun e=>h (.inl e)
    exact ih (by omega) (by omega)
 have hb1:∀ r,bB ⟨o,p,x⟩ odd many L v (r+1)=if r=0∨(o.getD v 0=0∧askV ⟨o,p,x⟩ odd many L v r < bB ⟨o,p,x⟩ odd many L v r)∨(o.getD v 0≠0∧bB ⟨o,p,x⟩ odd many L v r < askV ⟨o,p,x⟩ odd many L v r) then askV ⟨o,p,x⟩ odd many L v r else bB ⟨o,p,x⟩ odd many L v r:=fun r=>rfl
 have hc1:∀ r,bC ⟨o,p,x⟩ odd many L v (r+1)=if r=0∨(o.getD v 0=0∧askV ⟨o,p,x⟩ odd many L v r < bB ⟨o,p,x⟩ odd many L v r)∨(o.getD v 0≠0∧bB ⟨o,p,x⟩ odd many L v r < askV ⟨o,p,x⟩ odd many L v r) then (x.getD v []).getD r 0 else bC ⟨o,p,x⟩ odd many L v r:=fun r=>rfl
 have hc0:bC ⟨o,p,x⟩ odd many L v 0 = -1:=rfl
 have hbe:Ze0 ⟨o,p,x⟩ odd many L v=bB ⟨o,p,x⟩ odd many L v (x.getD v []).length:=rfl
 rw [hbe]
 generalize askV ⟨o,p,x⟩ odd many L v=A at *
 generalize bB ⟨o,p,x⟩ odd many L v=B at *
 generalize bC ⟨o,p,x⟩ odd many L v=C at *
 generalize hrw:x.getD v []=rw at *
 have hS1:=hS.len
 have hS2:=hS.l100
 have hS3:=hS.bd
 have hS4:=hS.ps
 repeat' first|exact gE|refine gS Zb9 Zbd [] ?_|refine gO Zb9 Zbd [] ?_ ?_|refine gC ?_ ?_<;>intro hb
 refine Zlp 4 rfl rfl ?_
 refine Zag (τ:=Nat) (fun r=>r≤rw.length) (fun r=>⟨13,[(21,.int .i64 r),(20,.int .i64 rw.length),(19,.roI rw),(11,.int .i64 (C r)),(10,.own 4),(8,.own 2),(5,.rop (.agg (.cons (.roI o) (.cons (.roI p) (.cons (.roII x) .nil))))),(4,.rop (.agg (.cons (.roI odd) (.cons (.roI many) .nil)))),(2,.ro 2 o.length (fun j=>msA (F j))),(3,.int .i64 v)],
  [(2,some (.box (.agg (.cons (.bool false) (.cons (.cst (Value.slice none 0 0)) .nil))))),(4,some (.box (msA (if r=0 then (false,[]) else deM many (B r)))))],[]⟩) (fun r=>rw.length - r) 0 [] ?_ (Nat.zero_le _) ?_
 ·first|exact leZ Zbd|refine leA Zbd ?_|refine leB Zbd ?_ ?_
  exact ⟨by rw [hrw],hrw.symm,hc0⟩
 intro r hr
 repeat' first|exact gE|refine gS Zb9 Zbd [7,10] ?_|refine gO Zb9 Zbd [7,10] ?_ ?_|refine gC ?_ ?_<;>intro hb
 ·have hrr:r < rw.length:=by omega
  have h1:=hrb r hrr
  exact Ob.mk ⟨⟨h1,by omega,by omega⟩,hS1,hS2,hS3,hS4,hok _ (by omega),hpr.1⟩
 ·have hrr:r < rw.length:=by omega
  have h1:=hrb r hrr
  simp only [peta]
  rw [←hask r hrr]
  have hcd:(C r < 0∨(Zdc (deM many (A r)) (if r=0 then (false,[]) else deM many (B r)) == decide (o.getD v 0=0))=true∧(Zdc (deM many (A r)) (if r=0 then (false,[]) else deM many (B r))=true∨Zdc (if r=0 then (false,[]) else deM many (B r)) (deM many (A r))=true))↔(r=0∨(o.getD v 0=0∧A r < B r)∨(o.getD v 0≠0∧B r < A r)):=by
   by_cases hr0:r=0
   ·subst hr0;rw [hc0];exact ⟨fun _=>.inl rfl,fun _=>.inl (by decide)⟩
   ·have h2:=haskb r hrr
    have h3:=hbb r hr (by omega)
    have h4:=hcc r (by omega) hr
    rw [if_neg hr0,Zjt hS4 h2.1 h2.2 h3.1 h3.2,Zjt hS4 h3.1 h3.2 h2.1 h2.2]
    simp only [beq_iff_eq,decide_eq_decide,decide_eq_true_eq]
    by_cases e:o.getD v 0=0
    ·simp only [e,iff_true,true_and,ne_eq,not_true_eq_false,false_and,or_false]
     omega
    ·simp only [e,iff_false,ne_eq,not_false_eq_true,true_and,false_and,false_or]
     omega
  have hbn:=hb1 r
  have hcn:=hc1 r
  generalize hO:(if r=0 then (false,[]) else deM many (B r))=O at *
  generalize hM:deM many (A r)=M at *
  repeat' first|exact gE|refine gS Zb9 Zbd [] ?_|refine gO Zb9 Zbd [] ?_ ?_|refine gC ?_ ?_<;>intro hb
  ·refine Ob.mk ⟨⟨fun h=>⟨h,by omega,by omega⟩,?_⟩,?_⟩
   ·generalize decide (C r < 0)=b1
    generalize Zdc (M.1,M.2) (O.1,O.2)=b2
    generalize decide (o.getD v 0=0)=b3
    cases b1<;>cases b2<;>cases b3<;>decide
   ·generalize decide (C r < 0)=b1
    generalize Zdc (M.1,M.2) (O.1,O.2)=b2
    generalize decide (o.getD v 0=0)=b3
    cases b1<;>cases b2<;>cases b3<;>decide
  ·have hc:=hcd.1 hb
   rw [if_pos hc] at hbn hcn
   refine back (r+1) [] ?_ (by omega) (by omega)
   first|exact leZ Zbd|refine leA Zbd ?_|refine leB Zbd ?_ ?_
   ·exact hcn
   ·rw [hbn,hM];exact ⟨rfl,rfl⟩
  ·have hc:¬ (r=0∨(o.getD v 0=0∧A r < B r)∨(o.getD v 0≠0∧B r < A r)):=fun h=>by
    rcases hcd.2 h with h|⟨h,h'⟩
    ·omega
    ·rcases hb.2 with h3|⟨h3,h4⟩
     ·rw [show Zdc M O=Zdc (M.1,M.2) (O.1,O.2) from rfl,h3] at h;cases h
     ·rcases h' with h'|h'
      ·rw [show Zdc M O=Zdc (M.1,M.2) (O.1,O.2) from rfl,h3] at h';cases h'
      ·rw [show Zdc O M=Zdc (O.1,O.2) (M.1,M.2) from rfl,h4] at h';cases h'
   rw [if_neg hc] at hbn hcn
   have hr0:r≠0:=fun e=>hc (.inl e)
   rw [if_neg hr0] at hO
   refine back (r+1) [] ?_ (by omega) (by omega)
   first|exact leZ Zbd|refine leA Zbd ?_|refine leB Zbd ?_ ?_
   ·exact hcn
   ·rw [hbn,hO];exact ⟨rfl,rfl⟩
 have hre:r=rw.length:=by omega
 subst hre
 rw [if_neg (by omega)]
 repeat' first|exact gE|refine gS Zb9 Zbd [] ?_|refine gO Zb9 Zbd [] ?_ ?_|refine gC ?_ ?_<;>intro hb
 refine Zab rfl rfl (Zae rfl ?_ rfl)
 rfl
set_option maxRecDepth 4000 in
set_option maxHeartbeats 4000000 in
theorem best_fg14 {odd many o p:List Int} {x:List (List Int)} {F:Nat→Bool × List Int} {v:Nat} (hS:SOK odd many) (hv:Zau ⟨o,p,x⟩=true) (hok:∀ j,j < o.length→okM many (F j)) (hvn:v < o.length) :
  FG Tryz.prog 35 [.agg (.cons (.roI odd) (.cons (.roI many) .nil)),.agg (.cons (.roI o) (.cons (.roI p) (.cons (.roII x) .nil))),.own 0,.int .i64 v] [(0,some (.avs 2 o.length fun j=>msA (F j)))] 1
   fun g=>g=⟨1,.tup (.cons (msA (deM many (Ze0 ⟨o,p,x⟩ odd many (mlF many o.length F) v))) (.cons (.int .i64 (bC ⟨o,p,x⟩ odd many (mlF many o.length F) v (x.getD v []).length)) .nil)),[(0,some (.avs 2 o.length fun j=>msA (F j)))]⟩:=by
 refine Zc5 htb (fn:=Tryz.f35) (by kernel_rfl) (by kernel_rfl) rfl (Nat.le_of_ble_eq_true rfl) fun hl=>?_
 simp only [lenP,mkL,lim] at hl
 have hV:=validB_iff.1 hv
 obtain ⟨hn,hpl,hxl,hpos⟩:=id hV
 simp only [Gm.n] at hn hpl hxl
 have hrl:(x.getD v []).length≤64∧1≤(x.getD v []).length:=by
  obtain ⟨⟨a1,a2,a3,a4,a5,a6⟩,_⟩:=hpos v (by simp only [Gm.n];omega)
  exact ⟨a6,a5⟩
 have hrb:∀ j,j < (x.getD v []).length→0≤(x.getD v []).getD j 0∧(x.getD v []).getD j 0 < o.length:=fun j hj=>by
  obtain ⟨_,hr⟩:=hpos v (by simp only [Gm.n];omega)
  exact ⟨(hr j hj).1,(hr j hj).2.1⟩
 have hpr:0≤p.getD v 0∧p.getD v 0≤60:=by
  obtain ⟨⟨a1,a2,a3,a4,_,a6⟩,_⟩:=hpos v (by simp only [Gm.n];omega)
  exact ⟨a3,a4⟩
 have how:0≤o.getD v 0∧o.getD v 0≤1:=by
  obtain ⟨⟨a1,a2,a3,a4,_,a6⟩,_⟩:=hpos v (by simp only [Gm.n];omega)
  exact ⟨a1,a2⟩
 generalize hL:mlF many o.length F=L
 have hLg:∀ j,j < o.length→L.getD j 0=enM many (F j):=fun j hj=>by rw [←hL];exact mlF_get hj
 have hask:∀ r,r < (x.getD v []).length→askV ⟨o,p,x⟩ odd many L v r=Zcu odd many (enM many (F ((x.getD v []).getD r 0).toNat)) (p.getD v 0):=fun r hr=>by
  have h1:=hrb r hr
  show Zcu odd many (L.getD ((x.getD v []).getD r 0).toNat 0) (p.getD v 0)=_
  rw [hLg _ (by omega)]
 have haskb:∀ r,r < (x.getD v []).length→0≤askV ⟨o,p,x⟩ odd many L v r∧askV ⟨o,p,x⟩ odd many L v r≤rpr many:=fun r hr=>by
  have h1:=hrb r hr
  have h2:=okM_bd hS.ps (hok ((x.getD v []).getD r 0).toNat (by omega))
  rw [hask r hr]
  exact Zhp hS.ps h2.1 h2.2
 have hbb:∀ r,r≤(x.getD v []).length→0 < r→0≤bB ⟨o,p,x⟩ odd many L v r∧bB ⟨o,p,x⟩ odd many L v r≤rpr many:=fun r hr h0=>by
  by_cases h:o.getD v 0=0
  ·obtain ⟨_,i,h1,h2⟩:=Zj1 (g:=⟨o,p,x⟩) (odd:=odd) (many:=many) (l:=L) h h0
   rw [h2];exact haskb i (by omega)
  ·obtain ⟨_,i,h1,h2⟩:=Ziv (g:=⟨o,p,x⟩) (odd:=odd) (many:=many) (l:=L) h h0
   rw [h2];exact haskb i (by omega)
 have hcc:∀ r,0 < r→r≤(x.getD v []).length→0≤bC ⟨o,p,x⟩ odd many L v r:=by
  intro r
  induction r with
  |zero=>intro h;exact absurd h (Nat.lt_irrefl _)
  |succ r ih =>
   intro _ hr
   unfold bC
   split
   ·exact (hrb r (by omega)).1
   ·rename_i h
    have:r≠0:=fun e=>h (.inl e)
    exact ih (by omega) (by omega)
 have hb1:∀ r,bB ⟨o,p,x⟩ odd many L v (r+1)=if r=0∨(o.getD v 0=0∧askV ⟨o,p,x⟩ odd many L v r < bB ⟨o,p,x⟩ odd many L v r)∨(o.getD v 0≠0∧bB ⟨o,p,x⟩ odd many L v r < askV ⟨o,p,x⟩ odd many L v r) then askV ⟨o,p,x⟩ odd many L v r else bB ⟨o,p,x⟩ odd many L v r:=fun r=>rfl
 have hc1:∀ r,bC ⟨o,p,x⟩ odd many L v (r+1)=if r=0∨(o.getD v 0=0∧askV ⟨o,p,x⟩ odd many L v r < bB ⟨o,p,x⟩ odd many L v r)∨(o.getD v 0≠0∧bB ⟨o,p,x⟩ odd many L v r < askV ⟨o,p,x⟩ odd many L v r) then (x.getD v []).getD r 0 else bC ⟨o,p,x⟩ odd many L v r:=fun r=>rfl
 have hc0:bC ⟨o,p,x⟩ odd many L v 0 = -1:=rfl
 have hbe:Ze0 ⟨o,p,x⟩ odd many L v=bB ⟨o,p,x⟩ odd many L v (x.getD v []).length:=rfl
 rw [hbe]
 generalize askV ⟨o,p,x⟩ odd many L v=A at *
 generalize bB ⟨o,p,x⟩ odd many L v=B at *
 generalize bC ⟨o,p,x⟩ odd many L v=C at *
 generalize hrw:x.getD v []=rw at *
 have hS1:=hS.len
 have hS2:=hS.l100
 have hS3:=hS.bd
 have hS4:=hS.ps
 repeat' first|exact gE|refine gS Zb9 Zbd [] ?_|refine gO Zb9 Zbd [] ?_ ?_|refine gC ?_ ?_<;>intro hb
 refine Zlp 5 rfl rfl ?_
 refine Zag (τ:=Nat) (fun r=>r≤rw.length) (fun r=>⟨14,[(21,.int .i64 r),(20,.int .i64 rw.length),(19,.roI rw),(11,.int .i64 (C r)),(10,.own 5),(8,.own 3),(5,.rop (.agg (.cons (.roI o) (.cons (.roI p) (.cons (.roII x) .nil))))),(4,.rop (.agg (.cons (.roI odd) (.cons (.roI many) .nil)))),(2,.own 0),(3,.int .i64 v)],
  [(0,some (.avs 2 o.length fun j=>msA (F j))),(3,some (.box (.agg (.cons (.bool false) (.cons (.cst (Value.slice none 0 0)) .nil))))),(5,some (.box (msA (if r=0 then (false,[]) else deM many (B r)))))],[]⟩) (fun r=>rw.length - r) 0 [] ?_ (Nat.zero_le _) ?_
 ·first|exact leZ Zbd|refine leA Zbd ?_|refine leB Zbd ?_ ?_
  exact ⟨by rw [hrw],hrw.symm,hc0⟩
 intro r hr
 repeat' first|exact gE|refine gS Zb9 Zbd [7,10] ?_|refine gO Zb9 Zbd [7,10] ?_ ?_|refine gC ?_ ?_<;>intro hb
 ·have hrr:r < rw.length:=by omega
  have h1:=hrb r hrr
  exact Ob.mk ⟨⟨⟨h1,by omega⟩,by omega,by omega⟩,hS1,hS2,hS3,hS4,hok _ (by omega),hpr.1⟩
 ·have hrr:r < rw.length:=by omega
  have h1:=hrb r hrr
  simp only [peta]
  rw [←hask r hrr]
  have hcd:(C r < 0∨(Zdc (deM many (A r)) (if r=0 then (false,[]) else deM many (B r)) == decide (o.getD v 0=0))=true∧(Zdc (deM many (A r)) (if r=0 then (false,[]) else deM many (B r))=true∨Zdc (if r=0 then (false,[]) else deM many (B r)) (deM many (A r))=true))↔(r=0∨(o.getD v 0=0∧A r < B r)∨(o.getD v 0≠0∧B r < A r)):=by
   by_cases hr0:r=0
   ·subst hr0;rw [hc0];exact ⟨fun _=>.inl rfl,fun _=>.inl (by decide)⟩
   ·have h2:=haskb r hrr
    have h3:=hbb r hr (by omega)
    have h4:=hcc r (by omega) hr
    rw [if_neg hr0,Zjt hS4 h2.1 h2.2 h3.1 h3.2,Zjt hS4 h3.1 h3.2 h2.1 h2.2]
    simp only [beq_iff_eq,decide_eq_decide,decide_eq_true_eq]
    by_cases e:o.getD v 0=0
    ·simp only [e,iff_true,true_and,ne_eq,not_true_eq_false,false_and,or_false]
     omega
    ·simp only [e,iff_false,ne_eq,not_false_eq_true,true_and,false_and,false_or]
     omega
  have hbn:=hb1 r
  have hcn:=hc1 r
  generalize hO:(if r=0 then (false,[]) else deM many (B r))=O at *
  generalize hM:deM many (A r)=M at *
  repeat' first|exact gE|refine gS Zb9 Zbd [] ?_|refine gO Zb9 Zbd [] ?_ ?_|refine gC ?_ ?_<;>intro hb
  ·refine Ob.mk ⟨⟨fun h=>⟨h,by omega,by omega⟩,?_⟩,?_⟩
   ·generalize decide (C r < 0)=b1
    generalize Zdc (M.1,M.2) (O.1,O.2)=b2
    generalize decide (o.getD v 0=0)=b3
    cases b1<;>cases b2<;>cases b3<;>decide
   ·generalize decide (C r < 0)=b1
    generalize Zdc (M.1,M.2) (O.1,O.2)=b2
    generalize decide (o.getD v 0=0)=b3
    cases b1<;>cases b2<;>cases b3<;>decide
  ·have hc:=hcd.1 hb
   rw [if_pos hc] at hbn hcn
   refine back (r+1) [] ?_ (by omega) (by omega)
   first|exact leZ Zbd|refine leA Zbd ?_|refine leB Zbd ?_ ?_
   ·exact hcn
   ·rw [hbn,hM];exact ⟨rfl,rfl⟩
  ·have hc:¬ (r=0∨(o.getD v 0=0∧A r < B r)∨(o.getD v 0≠0∧B r < A r)):=fun h=>by
    rcases hcd.2 h with h|⟨h,h'⟩
    ·omega
    ·rcases hb.2 with h3|⟨h3,h4⟩
     ·rw [show Zdc M O=Zdc (M.1,M.2) (O.1,O.2) from rfl,h3] at h;cases h
     ·rcases h' with h'|h'
      ·rw [show Zdc M O=Zdc (M.1,M.2) (O.1,O.2) from rfl,h3] at h';cases h'
      ·rw [show Zdc O M=Zdc (O.1,O.2) (M.1,M.2) from rfl,h4] at h';cases h'
   rw [if_neg hc] at hbn hcn
   have hr0:r≠0:=fun e=>hc (.inl e)
   rw [if_neg hr0] at hO
   refine back (r+1) [] ?_ (by omega) (by omega)
   first|exact leZ Zbd|refine leA Zbd ?_|refine leB Zbd ?_ ?_
   ·exact hcn
   ·rw [hbn,hO];exact ⟨rfl,rfl⟩
 have hre:r=rw.length:=by omega
 subst hre
 rw [if_neg (by omega)]
 repeat' first|exact gE|refine gS Zb9 Zbd [] ?_|refine gO Zb9 Zbd [] ?_ ?_|refine gC ?_ ?_<;>intro hb
 refine Zab rfl rfl (Zbe (⟨1,.tup (.cons (msA (deM many (B rw.length))) (.cons (.int .i64 (C rw.length)) .nil)),[(0,some (.avs 2 o.length fun j=>msA (F j)))]⟩) ([]) rfl rfl (Zal rfl) ?_)
 simp only [grR,zE,evp,evx,ev1,evLoad,evStore,evBin,evIf,Zac,forall_const,z38,tb,reduceAdd,reduceSub,reduceMul,reduceEqDiff,reduceLeDiff,reduceLT,Nat.reduceBEq,Nat.reduceBNe,↓reduceIte,reduceIte,spBe14,progS,lessS,msA,nro,isNilS]
open Go Pl
def xW14e_1 := Hd.mk (@noK.eq_1)
set_option maxRecDepth 4000 in
set_option maxHeartbeats 4000000 in
theorem queue_fg (q:List Int):FG Tryz.prog 60 [.own 0] [(0,some (.box (.own 1))),(1,some (.ints q))] 2
  fun g=>g=⟨3,.fn 76 (.cons (.own 2) .nil),[(2,some (.box (.own 0))),(0,some (.box (.own 1))),(1,some (.ints q))]⟩:=by
 refine Zc5 htb (fn:=Tryz.f60) (by kernel_rfl) (by kernel_rfl) rfl (Nat.le_of_ble_eq_true rfl) fun hl=>?_
 simp only [lenP,mkL,lim] at hl
 repeat' first|exact gE|refine gS noSp xW14e_1 [] ?_|refine gO noSp xW14e_1 [] ?_ ?_|refine gC ?_ ?_<;>intro hb
 refine Zab rfl rfl (Zbe (⟨3,.fn 76 (.cons (.own 2) .nil),[(2,some (.box (.own 0))),(0,some (.box (.own 1))),(1,some (.ints q))]⟩) ([]) rfl rfl (Zal rfl) ?_)
 simp only [grR,zE,evp,evx,ev1,evLoad,evStore,evBin,evIf,Zac,forall_const,z38,tb,reduceAdd,reduceSub,reduceMul,reduceEqDiff,reduceLeDiff,reduceLT,Nat.reduceBEq,Nat.reduceBNe,↓reduceIte,reduceIte,noK]
open Go Pl
def msZ (n i j:Nat):AV:=if j < i then msA (false,List.replicate n 0) else .agg (.cons (.bool false) (.cons (.cst (.slice none 0 0)) .nil))
theorem Zdj {n i:Nat}:msZ n i i=.agg (.cons (.bool false) (.cons (.cst (.slice none 0 0)) .nil)):=if_neg (Nat.lt_irrefl _)
theorem msZ_zero {n:Nat}:(fun _=>AV.agg (.cons (.bool false) (.cons (.cst (.slice none 0 0)) .nil)))=msZ n 0:=by
 funext j;unfold msZ;rw [if_neg (Nat.not_lt_zero _)]
theorem Zek {μ:Nat→Bool} {n i j:Nat}:men μ (msZ n i j)=true:=by unfold msZ;split<;>rfl
theorem Zej {ρ:Nat→Nat} {n i j:Nat}:ren ρ (msZ n i j)=msZ n i j:=by unfold msZ;split<;>rfl
theorem msZ_next {n i:Nat}:(fun j=>if j=i then AV.agg (.cons (.bool false) (.cons (.roI (List.replicate n 0)) .nil)) else msZ n i j)=msZ n (i+1):=by
 funext j
 unfold msZ msA
 by_cases h:j=i
 ·rw [if_pos h,if_pos (by omega)]
 ·rw [if_neg h]
  by_cases h2:j < i
  ·rw [if_pos h2,if_pos (by omega)]
  ·rw [if_neg h2,if_neg (by omega)]
structure QSt where
 l:List Int
 th:List Bool
 w:List Nat
 left:Int
theorem mlF_is {g:Gm} {many l:List Int} (hp:posL many) (h:LR g many l):mlF many g.own.length (fun j=>deM many (l.getD j 0))=l:=by
 refine List.ext_getElem (by simp [mlF,h.len]) fun j h1 h2=>?_
 have hj:j < g.own.length:=by rw [←h.len];exact h2
 have h3:=h.rng j hj
 have:=(Zo2 hp h3.1 h3.2).1
 simp only [mlF,List.getElem_map,List.getElem_range]
 show enM many (deM many (l.getD j 0))=_
 rw [this,List.getD_eq_getElem?_getD,List.getElem?_eq_getElem h2];rfl
theorem qm_raise {g:Gm} {many l:List Int} {w w':List Nat} {v:Nat} {V:Int} (h:LR g many (l.set v V)) (hv:v < l.length) (hlt:l.getD v 0 < V) (hw:w'.length≤g.own.length):qm g many (l.set v V) w' < qm g many l w:=by
 have h1:=LR_sum h
 rw [Zkj hv] at h1
 unfold qm
 rw [Zkj hv]
 generalize (g.own.length:Int) * rpr many=X at *
 have h2:(X - (l.sum - l.getD v 0+V)).toNat+1≤(X - l.sum).toNat:=by omega
 have h3:=Nat.mul_le_mul_right (g.own.length+1) h2
 rw [Nat.add_mul,Nat.one_mul] at h3
 omega
theorem ms_set {many l:List Int} {v:Nat} {V:Int} (hv:v < l.length):(fun j=>if j=v then AV.agg (.cons (.bool (deM many V).1) (.cons (.roI (deM many V).2) .nil)) else .agg (.cons (.bool (deM many (l.getD j 0)).1) (.cons (.roI (deM many (l.getD j 0)).2) .nil)))=fun j=>AV.agg (.cons (.bool (deM many ((l.set v V).getD j 0)).1) (.cons (.roI (deM many ((l.set v V).getD j 0)).2) .nil)):=by
 funext j
 rw [Zb5 hv]
 by_cases h:j=v
 ·rw [if_pos h,if_pos h]
 ·rw [if_neg h,if_neg h]
structure QIn where
 th:List Bool
 w:List Nat
 r:Nat
noncomputable def spMs : Nat→Option Spec
 |35=>some bestS14
 |61=>some lessS
 |_=>none
theorem Zb2 : SpOK Tryz.prog spMs:=by
 intro f S h
 unfold spMs at h
 split at h
 ·cases h;exact best_ok14
 ·cases h;exact less_ok
 ·cases h
open Go Pl
theorem Zjq {p:List Int} {k:Nat}:posL (mnN p k):=fun m hm=>by
 obtain ⟨q,_,rfl⟩:=List.mem_map.1 hm
 omega
theorem scale_sok {p:List Int} (hp:p.length≤20000):SOK (odN p 61) (mnN p 61):=by
 refine ⟨mnN_len.symm,by have:=Zml (p:=p) 61;omega,fun i=>?_,Zjq⟩
 by_cases hi:i < (mnN p 61).length
 ·rw [List.getD_eq_getElem?_getD,List.getElem?_eq_getElem hi]
  have:=List.getElem_mem hi
  obtain ⟨q,_,e⟩:=List.mem_map.1 this
  simp only [Option.getD_some]
  rw [←e]
  have:p.count q≤p.length:=List.count_le_length
  omega
 ·rw [List.getD_eq_getElem?_getD,List.getElem?_eq_none (by omega)]
  decide
noncomputable def meaF (g:Gm) (j:Nat):Bool × List Int:=deM (mnN g.pri 61) ((Zeh g (odN g.pri 61) (mnN g.pri 61)).getD j 0)
section
theorem Zoy : ∀ {ms a b:List Int},wfL ms a→wfL ms b→(∀ i,i < ms.length→a.getD i 0≤b.getD i 0)→nvl ms a≤nvl ms b
 |[],[],[],_,_,_=>Int.le_refl _
 |[],_ :: _,_,h,_,_=>h.elim
 |[],_,_ :: _,_,h,_=>h.elim
 |_ :: _,[],_,h,_,_=>h.elim
 |_ :: _,_,[],_,h,_=>h.elim
 |m :: ms,a :: r,b :: s,h,h',hi=>by
  have h1:=Zoy h.2 h'.2 fun i h2=>hi (i+1) (by simpa using h2)
  have h2:a≤b:=hi 0 (by simp)
  have h3:=Int.mul_le_mul_of_nonneg_right h2 (Int.le_of_lt (Zdn (Zei h.2)))
  show a * rpr ms+nvl ms r≤b * rpr ms+nvl ms s
  omega
theorem Zkt {l:List Int} {j k i:Nat}:(l.take j++List.replicate k 0).getD i 0=if i < j∧i < l.length then l.getD i 0 else 0:=by
 simp only [List.getD_eq_getElem?_getD,List.getElem?_append,List.length_take,List.getElem?_take,List.getElem?_replicate]
 by_cases h:i < j∧i < l.length
 ·rw [if_pos h,if_pos (by omega),if_pos h.1]
 ·rw [if_neg h]
  split
  ·omega
  ·split<;>rfl
theorem prog_le {odd many D D':List Int} {q:Int} (hp:posL many) (hlen:odd.length=many.length) (h:wfL many D) (h':wfL many D') (hle:∀ i,i < abv odd q→D.getD i 0≤D'.getD i 0)
  (hlt:q % 2≠0→0 < abv odd q∧D.getD (abv odd q - 1) 0+1≤D'.getD (abv odd q - 1) 0):Zcu odd many (nvl many D) q≤nvl many D':=by
 have hj:abv odd q≤many.length:=by have:=Zod (odd:=odd) (q:=q);omega
 obtain ⟨h1,h2⟩:=Znv h hj
 have h3:=(Zg3 h).2
 have hDl:=Zga h
 have hD'0:∀ i,i < many.length→0≤D'.getD i 0:=fun i hi=>(Zg6 h' hi).1
 unfold Zcu
 rw [if_neg (by omega),←h2]
 split
 ·refine Zoy h1 h' fun i hi=>?_
  rw [Zkt]
  split
  ·rename_i h4;exact hle i h4.1
  ·exact hD'0 i hi
 ·rename_i hq
  obtain ⟨h4,h5⟩:=hlt hq
  have hjl:abv odd q - 1 < many.length:=by omega
  have hget:(D.take (abv odd q)++List.replicate (many.length - abv odd q) 0).getD (abv odd q - 1) 0=D.getD (abv odd q - 1) 0:=by rw [Zkt,if_pos (by omega)]
  have h6:=(Zg6 h' hjl).2
  have h7:=(Zg6 h hjl).1
  have h8:=Zkv (i:=abv odd q - 1) (x:=D.getD (abv odd q - 1) 0+1) h1 hjl
  rw [hget,show abv odd q - 1+1=abv odd q by omega,show D.getD (abv odd q - 1) 0+1 - D.getD (abv odd q - 1) 0=1 by omega,Int.one_mul] at h8
  rw [←h8]
  have hlen2:(D.take (abv odd q)++List.replicate (many.length - abv odd q) 0).length=many.length:=Zga h1
  refine Zoy (Zkg h1 (by omega) (by omega)) h' fun i hi=>?_
  by_cases e:i=abv odd q - 1
  ·subst e
   rw [List.getD_eq_getElem?_getD,List.getElem?_set_self (by omega)]
   exact h5
  ·rw [List.getD_eq_getElem?_getD,List.getElem?_set_ne (fun h=>e h.symm),←List.getD_eq_getElem?_getD,Zkt]
   split
   ·rename_i h9;exact hle i h9.1
   ·exact hD'0 i hi
theorem abv_mono {odd:List Int} {q q':Int} (h:q'≤q):abv odd q≤abv odd q':=by
 induction odd with
 |nil=>exact Nat.le_refl _
 |cons o odd ih =>
  unfold abv at ih ⊢
  simp only [List.takeWhile_cons]
  by_cases e:q≤o
  ·rw [if_pos (decide_eq_true e),if_pos (decide_eq_true (show q'≤o by omega))]
   simpa using ih
  ·rw [if_neg (by simpa using e)];exact Nat.zero_le _
theorem drop_dvd {ms:List Int} {j k:Nat} (h:j≤k):∃ t,rpr (ms.drop j)=t * rpr (ms.drop k)∧(posL ms→0 < t):=by
 obtain ⟨t,h1,h2⟩:=Zkq (ms:=ms.drop j) (j:=k - j)
 rw [List.drop_drop,show j+(k - j)=k by omega] at h1
 exact ⟨t,h1,fun hp=>h2 (Zgw hp)⟩
theorem prog_step {odd many:List Int} {V V' q q':Int} (hp:posL many) (h0:0≤V) (hV:V≠rpr many) (hq:q'≤q) (h:Zcu odd many V q'≤V'):V / rpr (many.drop (abv odd q))≤V' / rpr (many.drop (abv odd q)):=by
 obtain ⟨t,ht,htp⟩:=drop_dvd (ms:=many) (abv_mono (odd:=odd) hq)
 have hR:=Zdn (Zgw (j:=abv odd q') hp)
 have ht0:=htp hp
 have h1:V / rpr (many.drop (abv odd q')) * rpr (many.drop (abv odd q'))≤V':=by
  unfold Zcu at h
  rw [if_neg hV] at h
  split at h<;>omega
 rw [ht,Int.mul_comm,←Int.ediv_ediv_of_nonneg (by omega),←Int.ediv_ediv_of_nonneg (by omega)]
 refine Int.ediv_le_ediv ht0 ?_
 have h2:(V / rpr (many.drop (abv odd q')) * rpr (many.drop (abv odd q'))) / rpr (many.drop (abv odd q'))≤V' / rpr (many.drop (abv odd q')):=Int.ediv_le_ediv hR h1
 rwa [Int.mul_ediv_cancel _ (by omega)] at h2
theorem prog_up {odd many:List Int} {V V' q:Int} (hp:posL many) (h0:0≤V) (hV:V≠rpr many) (hq:q % 2≠0) (h:Zcu odd many V q≤V'):V / rpr (many.drop (abv odd q))+1≤V' / rpr (many.drop (abv odd q)):=by
 have hR:=Zdn (Zgw (j:=abv odd q) hp)
 unfold Zcu at h
 rw [if_neg hV,if_neg hq] at h
 have h2:(V / rpr (many.drop (abv odd q))+1) * rpr (many.drop (abv odd q))≤V':=by rw [Int.add_mul,Int.one_mul];exact h
 have h3:=Int.ediv_le_ediv hR h2
 rwa [Int.mul_ediv_cancel _ (by omega)] at h3
theorem meas_cyc {E:Nat→Nat→Prop} {pri l:Nat→Int} {odd many:List Int} {D:Nat→Prop} (hp:posL many) (hD:∀ a b,E a b→D a∧D b) (hl:∀ a,D a→0≤l a∧l a≠rpr many) (hE:∀ a b,E a b→Zcu odd many (l b) (pri a)≤l a) {w:Nat} (hw:pri w % 2≠0):¬ Cyc E pri w:=by
 rintro ⟨t,ht,htw⟩
 have h1:=prog_up hp (hl t (hD _ _ ht.1).2).1 (hl t (hD _ _ ht.1).2).2 hw (hE _ _ ht.1)
 have h2:∀ b,Rch (Low E pri w) t b→pri b≤pri w∧l b / rpr (many.drop (abv odd (pri w)))≤l t / rpr (many.drop (abv odd (pri w))):=fun b hb=>by
  induction hb with
  |refl=>exact ⟨ht.2,Int.le_refl _⟩
  |step _ e ih =>
   have h3:=prog_step (q:=pri w) hp (hl _ (hD _ _ e.1).2).1 (hl _ (hD _ _ e.1).2).2 ih.1 (hE _ _ e.1)
   exact ⟨e.2,by omega⟩
 have h3:=(h2 w htw).2
 omega
/-! ### The most visits on a way -/
inductive Vis (E:Nat→Nat→Prop) (pri:Nat→Int) (q:Int):Nat→List Nat→Prop
 |one {v:Nat}:pri v≤q→Vis E pri q v (if pri v=q then [v] else [])
 |step {v w:Nat} {l:List Nat}:pri v≤q→E v w→Vis E pri q w l→Vis E pri q v (if pri v=q then v :: l else l)
def LowQ (E:Nat→Nat→Prop) (pri:Nat→Int) (q:Int) (a b:Nat):Prop:=E a b∧pri b≤q
theorem Vis.low {E:Nat→Nat→Prop} {pri:Nat→Int} {q:Int} {v:Nat} {l:List Nat} (h:Vis E pri q v l):pri v≤q:=by cases h<;>assumption
theorem Vis.mem {E:Nat→Nat→Prop} {pri:Nat→Int} {q:Int} {v:Nat} {l:List Nat} (h:Vis E pri q v l):∀ x,x∈l→pri x=q∧Rch (LowQ E pri q) v x:=by
 induction h with
 |one h =>
  intro x hx
  split at hx
  ·rename_i e;rw [List.mem_singleton.1 hx];exact ⟨e,.refl _⟩
  ·exact absurd hx List.not_mem_nil
 |@step v w l h e h2 ih =>
  intro x hx
  have hin:x∈l→pri x=q∧Rch (LowQ E pri q) v x:=fun h3=>⟨(ih x h3).1,Rch.cons ⟨e,h2.low⟩ (ih x h3).2⟩
  split at hx
  ·rename_i e2
   rcases List.mem_cons.1 hx with rfl|h3
   ·exact ⟨e2,.refl _⟩
   ·exact hin h3
  ·exact hin hx
theorem Vis.nodup {E:Nat→Nat→Prop} {pri:Nat→Int} {q:Int} {v:Nat} {l:List Nat} (h:Vis E pri q v l) (hE:∀ a b,E a b→pri a=q→¬ Cyc E pri a):l.Nodup:=by
 induction h with
 |one h=>split<;>simp
 |@step v w l h e h2 ih =>
  split
  ·rename_i e2
   refine List.nodup_cons.2 ⟨fun hx=>hE v w e e2 ?_,ih⟩
   obtain ⟨_,h3⟩:=h2.mem v hx
   exact ⟨w,⟨e,by rw [e2];exact h2.low⟩,Rch.mono (fun a b hab=>⟨hab.1,by rw [e2];exact hab.2⟩) h3⟩
  ·exact ih
theorem nodup_sub : ∀ {l m:List Nat},l.Nodup→(∀ x,x∈l→x∈m)→l.length≤m.length
 |[],_,_,_=>Nat.zero_le _
 |x :: l,m,hn,hs=>by
  obtain ⟨h1,h2⟩:=List.nodup_cons.1 hn
  have h3:x∈m:=hs x List.mem_cons_self
  have h4:=nodup_sub (l:=l) (m:=m.erase x) h2 fun y hy=>(List.mem_erase_of_ne (fun e:y=x=>h1 (e▸hy))).2 (hs y (List.mem_cons_of_mem _ hy))
  rw [List.length_erase_of_mem h3] at h4
  have:=List.length_pos_of_mem h3
  rw [List.length_cons];omega
theorem count_pos_at {p:List Int} {q:Int}:((List.range p.length).filter fun v=>decide (p.getD v 0=q)).length=p.count q:=by
 have h:p=(List.range p.length).map fun v=>p.getD v 0:=by
  refine List.ext_getElem (by simp) fun j h1 h2=>?_
  simp [List.getD_eq_getElem?_getD,h1]
 conv=>rhs;rw [h]
 rw [List.count_eq_countP,List.countP_map,List.countP_eq_length_filter]
 congr 1
noncomputable def mvN (Q:Nat→Prop):Nat→Nat
 |0=>0
 |B+1=>open Classical in if Q (B+1) then B+1 else mvN Q B
theorem mvN_le {Q:Nat→Prop}:∀ {B:Nat},mvN Q B≤B
 |0=>Nat.le_refl _
 |B+1=>by
  unfold mvN
  split
  ·exact Nat.le_refl _
  ·exact Nat.le_succ_of_le mvN_le
theorem mvN_ge {Q:Nat→Prop} {k:Nat} (hk:Q k):∀ {B:Nat},k≤B→k≤mvN Q B
 |0,h=>by rw [Nat.le_zero.1 h];exact Nat.zero_le _
 |B+1,h=>by
  unfold mvN
  split
  ·exact h
  ·rename_i h2
   by_cases e:k=B+1
   ·exact absurd (e▸hk) h2
   ·exact mvN_ge hk (by omega)
theorem mvN_is {Q:Nat→Prop}:∀ {B:Nat},mvN Q B=0∨Q (mvN Q B)
 |0=>.inl rfl
 |B+1=>by
  unfold mvN
  split
  ·rename_i h;exact .inr h
  ·exact mvN_is
section
variable {E:Nat→Nat→Prop} {pri:Nat→Int} {p:List Int} {o:Int}
noncomputable def mvV (E:Nat→Nat→Prop) (pri:Nat→Int) (p:List Int) (o:Int) (v:Nat):Nat:=mvN (fun k=>∃ l,Vis E pri o v l∧l.length=k) (p.count o)
theorem vis_bound (hp:∀ v,pri v=p.getD v 0) (hE:∀ a b,E a b→b < p.length) (hc:∀ a b,E a b→pri a=o→¬ Cyc E pri a) {v:Nat} {l:List Nat} (hv:v < p.length) (h:Vis E pri o v l):l.length≤p.count o:=by
 rw [←count_pos_at]
 refine nodup_sub (h.nodup hc) fun x hx=>?_
 obtain ⟨h1,h2⟩:=h.mem x hx
 refine List.mem_filter.2 ⟨List.mem_range.2 ?_,by rw [←hp];simpa using h1⟩
 exact Rch.closed (C:=fun x=>x < p.length) (fun a b _ e=>hE a b e.1) h2 hv
theorem vis_edge (hp:∀ v,pri v=p.getD v 0) (hE:∀ a b,E a b→b < p.length) (hc:∀ a b,E a b→pri a=o→¬ Cyc E pri a) {v w:Nat} (hv:v < p.length) (e:E v w) (h:pri v≤o):mvV E pri p o w+(if pri v=o then 1 else 0)≤mvV E pri p o v:=by
 have key:∀ l,Vis E pri o v l→l.length≤mvV E pri p o v:=fun l hl=>mvN_ge (Q:=fun k=>∃ l,Vis E pri o v l∧l.length=k) ⟨l,hl,rfl⟩ (vis_bound hp hE hc hv hl)
 rcases mvN_is (Q:=fun k=>∃ l,Vis E pri o w l∧l.length=k) (B:=p.count o) with h0|⟨l,hl,hk⟩
 ·have h1:=key _ (.one h)
  have h2:mvV E pri p o w=0:=h0
  rw [h2]
  split
  ·rename_i e2;rw [if_pos e2] at h1;simpa using h1
  ·omega
 ·have h1:=key _ (.step h e hl)
  have h2:mvV E pri p o w=l.length:=hk.symm
  rw [h2]
  split
  ·rename_i e2;rw [if_pos e2] at h1;simpa using h1
  ·rename_i e2;rw [if_neg e2] at h1;simpa using h1
end
structure OddS (p odd many:List Int):Prop where
 dec:odd.Pairwise (· > ·)
 all:∀ v,v < p.length→p.getD v 0 % 2≠0→p.getD v 0∈odd
 cnt:many=odd.map fun o=>((p.count o:Nat):Int)
theorem abv_cons {o:Int} {odd:List Int} {q:Int}:abv (o :: odd) q=if q≤o then abv odd q+1 else 0:=by
 unfold abv
 by_cases e:q≤o
 ·rw [if_pos e,List.takeWhile_cons,if_pos (decide_eq_true e)];rfl
 ·rw [if_neg e,List.takeWhile_cons,if_neg (by simpa using e)];rfl
theorem abv_at {odd:List Int} {q:Int} (hd:odd.Pairwise (· > ·)) (hq:q∈odd):0 < abv odd q∧odd.getD (abv odd q - 1) 0=q:=by
 induction odd with
 |nil=>exact absurd hq List.not_mem_nil
 |cons o odd ih =>
  obtain ⟨h1,h2⟩:=List.pairwise_cons.1 hd
  rw [abv_cons]
  rcases List.mem_cons.1 hq with rfl|hq
  ·rw [if_pos (Int.le_refl _)]
   have h0:abv odd q=0:=by
    cases odd with
    |nil=>rfl
    |cons b t =>
     have:=h1 b List.mem_cons_self
     rw [abv_cons,if_neg (by omega)]
   rw [h0];exact ⟨by omega,rfl⟩
  ·have h3:=h1 q hq
   obtain ⟨h4,h5⟩:=ih h2 hq
   rw [if_pos (by omega)]
   refine ⟨by omega,?_⟩
   rw [show abv odd q+1 - 1=(abv odd q - 1)+1 by omega]
   exact h5
theorem Zoc {odd:List Int} {q:Int} {i:Nat} (h:i < abv odd q):i < odd.length∧q≤odd.getD i 0:=(Zlt (Nat.le_of_lt h)).2 h
theorem wf_map {α:Type} {f m:α→Int}:∀ {l:List α},(∀ x,x∈l→0≤f x∧f x≤m x)→wfL (l.map m) (l.map f)
 |[],_=>trivial
 |x :: l,h=>⟨h x List.mem_cons_self,wf_map fun y hy=>h y (List.mem_cons_of_mem _ hy)⟩
theorem Zhy {f:Int→Int} {l:List Int} {i:Nat} (h:i < l.length):(l.map f).getD i 0=f (l.getD i 0):=by
 simp [List.getD_eq_getElem?_getD,h]
noncomputable def digV (E:Nat→Nat→Prop) (pri:Nat→Int) (p odd:List Int) (v:Nat):List Int:=odd.map fun o=>((mvV E pri p o v:Nat):Int)
theorem Zik {E:Nat→Nat→Prop} {pri:Nat→Int} {p odd many:List Int} (hO:OddS p odd many) {v:Nat}:wfL many (digV E pri p odd v):=by
 rw [hO.cnt]
 refine wf_map fun x _=>⟨by omega,?_⟩
 have:mvV E pri p x v≤p.count x:=mvN_le
 omega
theorem digV_prog {E:Nat→Nat→Prop} {pri:Nat→Int} {p odd many:List Int} (hO:OddS p odd many) (hp:∀ v,pri v=p.getD v 0) (hE:∀ a b,E a b→a < p.length∧b < p.length) (hc:∀ a b,E a b→pri a % 2≠0→¬ Cyc E pri a) (hod:∀ o,o∈odd→o % 2≠0) {v w:Nat} (e:E v w) :
  Zcu odd many (nvl many (digV E pri p odd w)) (pri v)≤nvl many (digV E pri p odd v):=by
 have hlen:odd.length=many.length:=by rw [hO.cnt,List.length_map]
 have hpos:posL many:=Zei (Zik (E:=E) (pri:=pri) (v:=v) hO)
 have hst:∀ i,i < abv odd (pri v)→mvV E pri p (odd.getD i 0) w+(if pri v=odd.getD i 0 then 1 else 0)≤mvV E pri p (odd.getD i 0) v:=fun i hi=>by
  obtain ⟨h1,h2⟩:=Zoc hi
  have hm:odd.getD i 0∈odd:=by rw [List.getD_eq_getElem?_getD,List.getElem?_eq_getElem h1];exact List.getElem_mem h1
  exact vis_edge hp (fun a b h=>(hE a b h).2) (fun a b h h3=>hc a b h (by rw [h3];exact hod _ hm)) (hE v w e).1 e h2
 refine prog_le hpos hlen (Zik hO) (Zik hO) (fun i hi=>?_) fun hq=>?_
 ·obtain ⟨h1,_⟩:=Zoc hi
  have:=hst i hi
  unfold digV
  rw [Zhy h1,Zhy h1]
  omega
 ·have hm:pri v∈odd:=by rw [hp];exact hO.all v (hE v w e).1 (by rw [←hp];exact hq)
  obtain ⟨h1,h2⟩:=abv_at hO.dec hm
  have h3:=hst (abv odd (pri v) - 1) (by omega)
  rw [h2,if_pos rfl] at h3
  obtain ⟨h4,_⟩:=Zoc (odd:=odd) (q:=pri v) (i:=abv odd (pri v) - 1) (by omega)
  refine ⟨h1,?_⟩
  unfold digV
  rw [Zhy h4,Zhy h4,h2]
  omega
end
section
open Go Pl
theorem pre_of_sol {g:Gm} {odd many:List Int} {W:Nat→Int} {c:Nat→Nat} (hO:OddS g.pri odd many) (hod:∀ o,o∈odd→o % 2≠0) (hpl:g.pri.length=g.own.length) (hrow:∀ v,v < g.own.length→∀ t,t∈rws g.nxt v→t < g.own.length) (hr:∀ v,v < g.own.length→0 < (g.nxt.getD v []).length)
  (hS:Sol (fun v=>g.own.getD v 0) (fun v=>g.pri.getD v 0) (rws g.nxt) (fun v=>v < g.own.length) W c 0):∃ l,Pre g odd many l∧∀ v,v < g.own.length→W v=0→l.getD v 0 < rpr many:=by
 have hpos:posL many:=Zei (Zik (E:=fun _ _=>False) (pri:=fun v=>g.pri.getD v 0) (v:=0) hO)
 have hR:=Zdn hpos
 let E:=Stp (fun v=>g.own.getD v 0) (rws g.nxt) (fun v=>v < g.own.length) W c 0
 let f:Nat→Int:=fun v=>if W v=0 then nvl many (digV E (fun v=>g.pri.getD v 0) g.pri odd v) else rpr many
 have hf:∀ v,0≤f v∧f v≤rpr many∧(W v=0→f v < rpr many):=fun v=>by
  have h:=Zg3 (Zik (E:=E) (pri:=fun v=>g.pri.getD v 0) (v:=v) hO)
  dsimp only [f]
  split
  ·exact ⟨h.1,by omega,fun _=>h.2⟩
  ·rename_i h2;exact ⟨by omega,by omega,fun h3=>absurd h3 h2⟩
 have hE:∀ a b,E a b→a < g.pri.length∧b < g.pri.length:=fun a b e=>⟨by rw [hpl];exact e.1.1,by rw [hpl];exact e.2.1⟩
 have hcy:∀ a b,E a b→g.pri.getD a 0 % 2≠0→¬ Cyc E (fun v=>g.pri.getD v 0) a:=fun a b e h=>hS.cyc a e.1.1 e.1.2 h
 have hg:∀ v,v < g.own.length→((List.range g.own.length).map f).getD v 0=f v:=fun v hv=>by simp [List.getD_eq_getElem?_getD,hv]
 have hask:∀ v r,v < g.own.length→r < (g.nxt.getD v []).length→askV g odd many ((List.range g.own.length).map f) v r=Zcu odd many (f ((rws g.nxt v).getD r 0)) (g.pri.getD v 0):=fun v r hv hr'=>by
  unfold askV
  rw [←Zix,hg]
  refine hrow v hv _ ?_
  rw [List.getD_eq_getElem?_getD,List.getElem?_eq_getElem (by rw [Zfx];exact hr')]
  exact List.getElem_mem _
 have hstep:∀ v t,W v=0→W t=0→E v t→Zcu odd many (f t) (g.pri.getD v 0)≤f v:=fun v t h1 h2 e=>by
  have:=digV_prog (pri:=fun v=>g.pri.getD v 0) hO (fun _=>rfl) hE hcy hod e
  dsimp only [f]
  rw [if_pos h1,if_pos h2]
  exact this
 refine ⟨(List.range g.own.length).map f,⟨⟨by simp,fun v hv=>?_⟩,fun v hv=>?_⟩,fun v hv h=>by rw [hg v hv];exact (hf v).2.2 h⟩
 ·rw [hg v hv];exact ⟨(hf v).1,(hf v).2.1⟩
 ·rw [hg v hv]
  have hm:∀ t,t∈rws g.nxt v→∃ r,r < (g.nxt.getD v []).length∧(rws g.nxt v).getD r 0=t:=fun t ht=>by
   obtain ⟨r,h1,h2⟩:=List.getElem_of_mem ht
   refine ⟨r,by rw [Zfx] at h1;exact h1,?_⟩
   rw [List.getD_eq_getElem?_getD,List.getElem?_eq_getElem h1];exact h2
  by_cases hw:W v=0
  ·by_cases ho:g.own.getD v 0=0
   ·obtain ⟨h1,h2,h3⟩:=hS.mine v hv hw ho
    obtain ⟨r,h4,h5⟩:=hm _ h1
    have h6:=(Zj1 (g:=g) (odd:=odd) (many:=many) (l:=(List.range g.own.length).map f) ho (Nat.lt_of_le_of_lt (Nat.zero_le _) h4)).1 r h4
    rw [hask v r hv h4,h5] at h6
    exact Int.le_trans h6 (hstep v _ hw h3 ⟨⟨hv,hw⟩,h2,fun _=>rfl,fun h=>absurd ho h⟩)
   ·obtain ⟨_,r,h4,h5⟩:=Ziv (g:=g) (odd:=odd) (many:=many) (l:=(List.range g.own.length).map f) ho (hr v hv)
    show bB g odd many _ v _≤_
    rw [h5,hask v r hv h4]
    have hmem:(rws g.nxt v).getD r 0∈rws g.nxt v:=by
     rw [List.getD_eq_getElem?_getD,List.getElem?_eq_getElem (by rw [Zfx];exact h4)]
     exact List.getElem_mem _
    have hlt:=hrow v hv _ hmem
    exact hstep v _ hw (hS.his v hv hw ho _ hmem hlt) ⟨⟨hv,hw⟩,hlt,fun h=>absurd h ho,fun _=>hmem⟩
  ·have:f v=rpr many:=if_neg hw
   rw [this]
   obtain ⟨r,h4,h5⟩:=Zll (odd:=odd) (many:=many) (l:=(List.range g.own.length).map f) (hr v hv)
   rw [h5,hask v r hv h4]
   exact (Zhp hpos (hf _).1 (hf _).2.1).2
theorem least_ex {g:Gm} {odd many:List Int} (hp:posL many) (hrow:∀ v,v < g.own.length→∀ t,t∈rws g.nxt v→t < g.own.length) (hr:∀ v,v < g.own.length→0 < (g.nxt.getD v []).length):Least g odd many (Zeh g odd many):=by
 have hR:=Zdn hp
 have htop:Pre g odd many (List.replicate g.own.length (rpr many)):=by
  have hg:∀ v,v < g.own.length→(List.replicate g.own.length (rpr many)).getD v 0=rpr many:=fun v hv=>by simp [List.getD_eq_getElem?_getD,hv]
  have hLR:LR g many (List.replicate g.own.length (rpr many)):=⟨by simp,fun v hv=>by rw [hg v hv];omega⟩
  exact { hLR with ok:=fun v hv=>by rw [hg v hv];exact (Zmz hp hLR (hr v hv) (hrow v hv)).2 }
 have hmin:∀ v,∃ l,Pre g odd many l∧∀ l',Pre g odd many l'→v < g.own.length→l.getD v 0≤l'.getD v 0:=fun v=>by
  have key:∀ (k:Nat) (l:List Int),Pre g odd many l→(l.getD v 0).toNat≤k→∃ l,Pre g odd many l∧∀ l',Pre g odd many l'→v < g.own.length→l.getD v 0≤l'.getD v 0:=fun k=>by
   induction k with
   |zero=>intro l hl hk;exact ⟨l,hl,fun l' hl' hv=>by have:=(hl'.rng v hv).1;omega⟩
   |succ k ih =>
    intro l hl hk
    by_cases h:∃ l',Pre g odd many l'∧v < g.own.length∧l'.getD v 0 < l.getD v 0
    ·obtain ⟨l',h1,h2,h3⟩:=h
     have:=(h1.rng v h2).1
     exact ih l' h1 (by omega)
    ·exact ⟨l,hl,fun l' hl' hv=>Int.not_lt.1 fun h3=>h ⟨l',hl',hv,h3⟩⟩
  exact key _ _ htop (Nat.le_refl _)
 obtain ⟨F,hF⟩:∃ F:Nat→List Int,∀ v,Pre g odd many (F v)∧∀ l',Pre g odd many l'→v < g.own.length→(F v).getD v 0≤l'.getD v 0:=⟨fun v=>Classical.choose (hmin v),fun v=>Classical.choose_spec (hmin v)⟩
 have hg:∀ v,v < g.own.length→((List.range g.own.length).map fun v=>(F v).getD v 0).getD v 0=(F v).getD v 0:=fun v hv=>by simp [List.getD_eq_getElem?_getD,hv]
 have hLR:LR g many ((List.range g.own.length).map fun v=>(F v).getD v 0):=⟨by simp,fun v hv=>by rw [hg v hv];exact (hF v).1.rng v hv⟩
 have hL:Least g odd many ((List.range g.own.length).map fun v=>(F v).getD v 0):={ hLR with
  ok:=fun v hv=>by
   rw [hg v hv]
   refine Int.le_trans (best_mono hp hLR (hF v).1.toLR (hr v hv) (hrow v hv) fun t ht=>?_) ((hF v).1.ok v hv)
   rw [hg t (hrow v hv t ht)]
   exact (hF t).2 _ (hF v).1 (hrow v hv t ht)
  low:=fun l' hl' v hv=>by rw [hg v hv];exact (hF v).2 l' hl' hv }
 rw [leastL_eq hL];exact hL
theorem prog_top {odd many:List Int} {q:Int}:Zcu odd many (rpr many) q=rpr many:=by unfold Zcu;rw [if_pos rfl]
theorem sol_of_pre {g:Gm} {odd many l:List Int} {c:Nat→Nat} (hp:posL many) (hrow:∀ v,v < g.own.length→∀ t,t∈rws g.nxt v→t < g.own.length) (hr:∀ v,v < g.own.length→0 < (g.nxt.getD v []).length) (hl:Pre g odd many l)
  (hc:∀ v,v < g.own.length→g.own.getD v 0=0→l.getD v 0 < rpr many→c v∈rws g.nxt v∧Zcu odd many (l.getD (c v) 0) (g.pri.getD v 0)≤l.getD v 0) :
  Sol (fun v=>g.own.getD v 0) (fun v=>g.pri.getD v 0) (rws g.nxt) (fun v=>v < g.own.length) (fun v=>if l.getD v 0 < rpr many then 0 else 1) c 0:=by
 have hW:∀ v,(if l.getD v 0 < rpr many then (0:Int) else 1)=0→l.getD v 0 < rpr many:=fun v h=>by
  by_cases e:l.getD v 0 < rpr many
  ·exact e
  ·rw [if_neg e] at h;cases h
 have hlow:∀ v t,t < g.own.length→l.getD v 0 < rpr many→Zcu odd many (l.getD t 0) (g.pri.getD v 0)≤l.getD v 0→l.getD t 0 < rpr many:=fun v t ht h1 h2=>by
  have h3:=(hl.rng t ht).2
  rcases Int.lt_or_eq_of_le h3 with h4|h4
  ·exact h4
  ·rw [h4,prog_top] at h2;omega
 have hhis:∀ v,v < g.own.length→g.own.getD v 0≠0→∀ t,t∈rws g.nxt v→Zcu odd many (l.getD t 0) (g.pri.getD v 0)≤l.getD v 0:=fun v hv ho t ht=>by
  obtain ⟨r,h1,h2⟩:=List.getElem_of_mem ht
  rw [Zfx] at h1
  have h3:=(Ziv (g:=g) (odd:=odd) (many:=many) (l:=l) ho (hr v hv)).1 r h1
  have h4:=hl.ok v hv
  have h5:askV g odd many l v r=Zcu odd many (l.getD t 0) (g.pri.getD v 0):=by
   have h6:(rws g.nxt v).getD r 0=t:=by rw [List.getD_eq_getElem?_getD,List.getElem?_eq_getElem (by rw [Zfx];exact h1)];exact h2
   unfold askV
   rw [←Zix,h6]
  rw [h5] at h3
  exact Int.le_trans h3 h4
 refine ⟨fun v hv h ho=>?_,fun v hv h ho t ht hk=>?_,fun w hw h hpar=>?_⟩
 ·obtain ⟨h1,h2⟩:=hc v hv ho (hW v h)
  have h3:=hrow v hv _ h1
  exact ⟨h1,h3,if_pos (hlow v _ h3 (hW v h) h2)⟩
 ·exact if_pos (hlow v t hk (hW v h) (hhis v hv ho t ht))
 ·refine meas_cyc (l:=fun v=>l.getD v 0) (odd:=odd) (many:=many) (D:=fun v=>v < g.own.length∧l.getD v 0 < rpr many) hp (fun a b e=>?_) (fun a ha=>⟨(hl.rng a ha.1).1,by omega⟩) (fun a b e=>?_) hpar
  ·obtain ⟨⟨e1,e2⟩,e3,e4,e5⟩:=e
   refine ⟨⟨e1,hW a e2⟩,e3,?_⟩
   by_cases ho:g.own.getD a 0=0
   ·obtain ⟨h1,h2⟩:=hc a e1 ho (hW a e2)
    rw [e4 ho];exact hlow a _ (hrow a e1 _ h1) (hW a e2) h2
   ·exact hlow a b e3 (hW a e2) (hhis a e1 ho b (e5 ho))
  ·obtain ⟨⟨e1,e2⟩,e3,e4,e5⟩:=e
   by_cases ho:g.own.getD a 0=0
   ·rw [e4 ho];exact (hc a e1 ho (hW a e2)).2
   ·exact hhis a e1 ho b (e5 ho)
theorem least_win {g:Gm} {odd many:List Int} (hO:OddS g.pri odd many) (hod:∀ o,o∈odd→o % 2≠0) (hpl:g.pri.length=g.own.length) (hrow:∀ v,v < g.own.length→∀ t,t∈rws g.nxt v→t < g.own.length) (hr:∀ v,v < g.own.length→0 < (g.nxt.getD v []).length)
  (hown:∀ v,v < g.own.length→g.own.getD v 0=0∨g.own.getD v 0=1) (hpri:∀ v,v < g.own.length→0≤g.pri.getD v 0) {W:Nat→Int} {c d:Nat→Nat} (hW:∀ v,v < g.own.length→W v=0∨W v=1)
  (h0:Sol (fun v=>g.own.getD v 0) (fun v=>g.pri.getD v 0) (rws g.nxt) (fun v=>v < g.own.length) W c 0) (h1:Sol (fun v=>g.own.getD v 0) (fun v=>g.pri.getD v 0) (rws g.nxt) (fun v=>v < g.own.length) W d 1)
  {v:Nat} (hv:v < g.own.length):(Zeh g odd many).getD v 0 < rpr many↔W v=0:=by
 have hpos:posL many:=Zei (Zik (E:=fun _ _=>False) (pri:=fun v=>g.pri.getD v 0) (v:=0) hO)
 have hL:=least_ex (odd:=odd) hpos hrow hr
 constructor
 ·intro h
  have hc:∀ v,∃ t,v < g.own.length→g.own.getD v 0=0→t∈rws g.nxt v∧Zcu odd many ((Zeh g odd many).getD t 0) (g.pri.getD v 0)≤(Zeh g odd many).getD v 0:=fun v=>by
   by_cases h:v < g.own.length∧g.own.getD v 0=0
   ·obtain ⟨r,h4,h5⟩:=Zll (odd:=odd) (many:=many) (l:=Zeh g odd many) (hr v h.1)
    refine ⟨(rws g.nxt v).getD r 0,fun _ _=>⟨?_,?_⟩⟩
    ·rw [List.getD_eq_getElem?_getD,List.getElem?_eq_getElem (by rw [Zfx];exact h4)]
     exact List.getElem_mem _
    ·have h6:=hL.ok v h.1
     rw [h5] at h6
     unfold askV at h6
     rw [Zix];exact h6
   ·exact ⟨0,fun a b=>absurd ⟨a,b⟩ h⟩
  have hs:=sol_of_pre (c:=fun v=>Classical.choose (hc v)) hpos hrow hr hL.toPre fun v hv ho _=>Classical.choose_spec (hc v) hv ho
  exact (hW v hv).resolve_right (Zes (n:=g.own.length) (fun _ h=>h) hs h1 hown hv (if_pos h))
 ·intro h
  obtain ⟨l,hl,hlt⟩:=pre_of_sol (odd:=odd) (many:=many) hO hod hpl hrow hr h0
  exact Int.lt_of_le_of_lt (hL.low l hl v hv) (hlt v hv h)
end
section
open Go Pl
theorem odN_mem {p:List Int} {o:Int}:∀ {k:Nat},o∈odN p k↔∃ j:Nat,j < k∧o=60 - (j:Int)∧o % 2=1∧0 < p.count o
 |0=>⟨fun h=>absurd h List.not_mem_nil,fun ⟨j,h,_⟩=>absurd h (Nat.not_lt_zero j)⟩
 |k+1=>by
  have ih:=odN_mem (p:=p) (o:=o) (k:=k)
  constructor
  ·intro h
   rw [odN] at h
   split at h
   ·rename_i hc
    rcases List.mem_append.1 h with h|h
    ·obtain ⟨j,h1,h2⟩:=ih.1 h;exact ⟨j,by omega,h2⟩
    ·rw [List.mem_singleton.1 h];exact ⟨k,Nat.lt_succ_self k,rfl,hc.1,hc.2⟩
   ·obtain ⟨j,h1,h2⟩:=ih.1 h;exact ⟨j,by omega,h2⟩
  ·rintro ⟨j,h1,h2,h3,h4⟩
   rw [odN]
   by_cases e:j=k
   ·subst e
    rw [if_pos ⟨by rw [←h2];exact h3,by rw [←h2];exact h4⟩,h2]
    exact List.mem_append_right _ List.mem_cons_self
   ·have:=ih.2 ⟨j,by omega,h2,h3,h4⟩
    split
    ·exact List.mem_append_left _ this
    ·exact this
theorem Zmm {p:List Int}:∀ k:Nat,(odN p k).Pairwise (· > ·)
 |0=>List.Pairwise.nil
 |k+1=>by
  rw [odN]
  split
  ·rw [List.pairwise_append]
   refine ⟨Zmm k,List.pairwise_singleton _ _,fun a ha b hb=>?_⟩
   obtain ⟨j,h1,h2,_⟩:=odN_mem.1 ha
   rw [List.mem_singleton.1 hb]
   show 60 - (k:Int) < a
   omega
  ·exact Zmm k
theorem odn_ods {g:Gm} (hG:GOk g):OddS g.pri (odN g.pri 61) (mnN g.pri 61):=by
 refine ⟨Zmm 61,fun v hv ho=>?_,rfl⟩
 have hb:=hG.pri v (by rw [←hG.pl];exact hv)
 refine odN_mem.2 ⟨(60 - g.pri.getD v 0).toNat,by omega,by omega,by omega,List.count_pos_iff.2 ?_⟩
 rw [List.getD_eq_getElem?_getD,List.getElem?_eq_getElem hv]
 exact List.getElem_mem _
theorem odn_odd {p:List Int}:∀ o,o∈odN p 61→o % 2≠0:=fun o h=>by
 obtain ⟨j,_,_,h,_⟩:=odN_mem.1 h;omega
noncomputable def meaV (g:Gm) (v:Nat):Int:=(Zeh g (odN g.pri 61) (mnN g.pri 61)).getD v 0
theorem Zht {g:Gm} (hG:GOk g):Least g (odN g.pri 61) (mnN g.pri 61) (Zeh g (odN g.pri 61) (mnN g.pri 61)):=least_ex Zjq hG.row fun v hv=>(hG.len v hv).1
theorem Zm9 {g:Gm} (hG:GOk g) {v:Nat} (hv:v < g.own.length):0≤meaV g v∧meaV g v≤rpr (mnN g.pri 61):=(Zht hG).rng v hv
theorem meaF_eq {g:Gm} {v:Nat}:meaF g v=deM (mnN g.pri 61) (meaV g v):=rfl
theorem deM_fst {many:List Int} {V:Int}:(deM many V).1=decide (V=rpr many):=by
 unfold deM
 split
 ·rename_i h;rw [decide_eq_true h]
 ·rename_i h;rw [decide_eq_false h]
theorem mea_win {g:Gm} (hV:Zc1 g) {v:Nat} (hv:v < g.own.length):meaV g v < rpr (mnN g.pri 61)↔(winA g).getD v 0=0:=by
 have hG:=gok hV
 obtain ⟨h1,c,h2,h3⟩:=Zfd hV
 exact least_win (odn_ods hG) odn_odd hG.pl hG.row (fun v hv=>(hG.len v hv).1) hG.own (fun v hv=>(hG.pri v hv).1) h1 h2 h3 hv
theorem Zmq {g:Gm} (hV:Zc1 g) {v:Nat} (hv:v < g.own.length):(meaF g v).1=decide ((winA g).getD v 0=1):=by
 have hG:=gok hV
 have h1:=mea_win hV hv
 have h2:=Zm9 hG hv
 have h3:=(Zfd hV).1 v hv
 rw [meaF_eq,deM_fst]
 by_cases h:(winA g).getD v 0=1
 ·rw [decide_eq_true h,decide_eq_true]
  have:¬ meaV g v < rpr (mnN g.pri 61):=fun hl=>by have:=h1.1 hl;omega
  omega
 ·rw [decide_eq_false h,decide_eq_false]
  have:=h1.2 (by omega)
  omega
theorem mea_fit {g:Gm} (hG:GOk g) {v:Nat} (hv:v < g.own.length):okM (mnN g.pri 61) (meaF g v)∧enM (mnN g.pri 61) (meaF g v)=meaV g v:=by
 have:=Zo2 (many:=mnN g.pri 61) Zjq (Zm9 hG hv).1 (Zm9 hG hv).2
 exact ⟨this.2,this.1⟩
end
open Go Pl
noncomputable def spCopy : Nat→Option Spec
 |59=>some cloneS
 |_=>none
theorem Zer : SpOK Tryz.prog spCopy:=by
 intro f S h
 unfold spCopy at h
 split at h
 ·cases h;exact clone_ok
 ·cases h
theorem cp_next {x:List (List Int)} {i:Nat} (h:i < x.length):(x.take i++List.replicate (x.length - i) []).set i (x.getD i [])=x.take (i+1)++List.replicate (x.length - (i+1)) []:=by
 obtain ⟨n,hn⟩:∃ n,x.length - i=n+1:=⟨x.length - i - 1,by omega⟩
 rw [hn,show x.length - (i+1)=n from by omega,List.replicate_succ,List.set_append_right _ _ (by simp;omega),List.length_take,Nat.min_eq_left (by omega),Nat.sub_self,List.set_cons_zero,Zff h,List.append_assoc]
 rfl
def Zfc := Hd.mk (And.intro @spCopy.eq_1<|@cloneS.eq_1)
set_option maxRecDepth 4000 in
set_option maxHeartbeats 4000000 in
theorem copy_fg {o p:List Int} {x:List (List Int)} (ho:o.length≤1000000) (hp:p.length≤1000000) (hx:x.length≤1000000) (hr:∀ v,v < x.length→(x.getD v []).length≤1000000) :
  FG Tryz.prog 32 [.agg (.cons (.roI o) (.cons (.roI p) (.cons (.roII x) .nil)))] [] 0 fun g=>g=⟨3,.agg (.cons (.own 0) (.cons (.own 1) (.cons (.own 2) .nil))),[(0,some (.ints o)),(1,some (.ints p)),(2,some (.rowsR x))]⟩:=by
 refine Zc5 htb (fn:=Tryz.f32) (by kernel_rfl) (by kernel_rfl) rfl (Nat.le_of_ble_eq_true rfl) fun hl=>?_
 simp only [lenP,mkL,lim] at hl
 repeat' first|exact gE|refine gS Zer Zfc [1] ?_|refine gO Zer Zfc [1] ?_ ?_|refine gC ?_ ?_<;>intro hb
 refine gRa Zer Zfc (fun i=>Nat.beq i 11) ?_ ?_
 ·first|exact oA|skip
 repeat' first|exact gE|refine gS Zer Zfc [] ?_|refine gO Zer Zfc [] ?_ ?_|refine gC ?_ ?_<;>intro hb
 refine Zag (τ:=Nat) (fun i=>i≤x.length) (fun i=>⟨31,[(32,.int .i64 i),(31,.int .i64 x.length),(30,.roII x),(3,.own 15),(2,.own 1),(1,.rop (.agg (.cons (.roI o) (.cons (.roI p) (.cons (.roII x) .nil)))))],
  [(1,some (.box (.agg (.cons (.cst (.slice none 0 0)) (.cons (.cst (.slice none 0 0)) (.cons (.cst (.slice none 0 0)) .nil)))))),(5,some (.ints o)),(9,some (.ints p)),(13,some (.rowsR (x.take i++List.replicate (x.length - i) []))),(15,some (.box (.agg (.cons (.own 5) (.cons (.own 9) (.cons (.own 13) .nil))))))],[]⟩) (fun i=>x.length - i) 0 [] ?_ (Nat.zero_le _) ?_
 ·refine ⟨rfl,?_,?_⟩<;>simp only [zE,evp,evx,ev1,evLoad,evStore,evBin,evIf,Zac,forall_const,z38,tb,reduceAdd,reduceSub,reduceMul,reduceEqDiff,reduceLeDiff,reduceLT,Nat.reduceBEq,Nat.reduceBNe,↓reduceIte,reduceIte,spCopy,cloneS,zI]
  exact ⟨cpL_all (by simp),cpL_all (by simp),by simp⟩
 intro i hi
 have hlen:(x.take i++List.replicate (x.length - i) []).length=x.length:=by simp;omega
 repeat' first|exact gE|refine gS Zer Zfc [] ?_|refine gO Zer Zfc [] ?_ ?_|refine gC ?_ ?_<;>intro hb
 ·rw [hlen];exact Ob.mk ⟨⟨by have:=hr i (by omega);omega,by omega,by omega⟩,by omega⟩
 ·refine back (i+1) [] ?_ (by omega) (by omega)
  first|exact leZ Zfc|refine leA Zfc ?_|refine leB Zfc ?_ ?_
  exact cp_next (by omega)
 ·have hi':i=x.length:=by omega
  subst hi'
  refine Zab rfl rfl (Zbe (⟨3,.agg (.cons (.own 0) (.cons (.own 1) (.cons (.own 2) .nil))),[(0,some (.ints o)),(1,some (.ints p)),(2,some (.rowsR x))]⟩) ([(0,5),(1,9),(2,13)]) rfl rfl (Zal rfl) ?_)
  simp only [grR,zE,evp,evx,ev1,evLoad,evStore,evBin,evIf,Zac,forall_const,z38,tb,reduceAdd,reduceSub,reduceMul,reduceEqDiff,reduceLeDiff,reduceLT,Nat.reduceBEq,Nat.reduceBNe,↓reduceIte,reduceIte,spCopy,cloneS]
  rw [Nat.sub_self,List.replicate_zero,List.append_nil]
open Go Pl
def du (f:Int→Int) (xs:List Int) (i:Nat):List Int:=(xs.take i).map f++xs.drop i
theorem du_len {f:Int→Int} {xs:List Int} {i:Nat}:(du f xs i).length=xs.length:=by simp [du];omega
theorem du_getD {f:Int→Int} {xs:List Int} {i:Nat} (h:i < xs.length):(du f xs i).getD i 0=xs.getD i 0:=by
 have hl:((xs.take i).map f).length=i:=by simp;omega
 simp only [du,List.getD_eq_getElem?_getD]
 rw [List.getElem?_append_right (by omega),hl,Nat.sub_self,List.getElem?_drop,Nat.add_zero]
theorem du_next {f:Int→Int} {xs:List Int} {i:Nat} (h:i < xs.length):(du f xs i).set i (f (xs.getD i 0))=du f xs (i+1):=by
 have hl:((xs.take i).map f).length=i:=by simp;omega
 have hd:xs.drop i=xs.getD i 0 :: xs.drop (i+1):=by
  rw [List.drop_eq_getElem_cons h,List.getD_eq_getElem?_getD,List.getElem?_eq_getElem h];rfl
 unfold du
 rw [List.set_append_right _ _ (by omega),hl,Nat.sub_self,hd,List.set_cons_zero,Zff (d:=0) h,List.map_append,List.append_assoc]
 rfl
theorem du_all {f:Int→Int} {xs:List Int}:du f xs xs.length=xs.map f:=by simp [du]
theorem du_zero {f:Int→Int} {xs:List Int}:du f xs 0=xs:=by simp [du]
noncomputable def Zlf (g:Gm):Gm × Int :=
 if Zau g=true then (if ∃ v,v < g.n∧g.pri.getD v 0=60 then (⟨[],[],[]⟩,3) else (⟨g.own.map fun o=>1 - o,g.pri.map fun p=>p+1,g.nxt⟩,0)) else (⟨[],[],[]⟩,1)
noncomputable def dualS : Spec
 |[.agg (.cons (.roI o) (.cons (.roI p) (.cons (.roII x) .nil)))]=>some ⟨True,.tup (.cons (gmA (Zlf ⟨o,p,x⟩).1) (.cons (.int .i64 (Zlf ⟨o,p,x⟩).2) .nil)),none⟩
 |_=>none
noncomputable def spDual : Nat→Option Spec
 |13=>some validS
 |_=>none
theorem Zdg : SpOK Tryz.prog spDual:=by
 intro f S h
 unfold spDual at h
 split at h
 ·cases h;exact Zgo
 ·cases h
def Zdw := Hd.mk (And.intro @spDual.eq_1<|@validS.eq_1)
set_option maxRecDepth 4000 in
set_option maxHeartbeats 4000000 in
theorem dual_ok : Zcn Tryz.prog 16 dualS:=by
 refine Zaw htb (fn:=Tryz.f16) (by kernel_rfl) (by kernel_rfl) rfl (fun args r hS=>?_) (fun args r hS hob hl=>?_)
 ·unfold dualS at hS;split at hS<;>first|(cases hS;done)|(cases hS;exact Nat.le_of_ble_eq_true rfl)
 unfold dualS at hS
 split at hS
 case h_2=>cases hS
 rename_i o p x
 simp only [Option.some.injEq] at hS
 subst hS
 simp only [lenP,mkL,lim] at hl
 dsimp only at hob
 repeat' first|exact gE|refine gS Zdg Zdw [3] ?_|refine gO Zdg Zdw [3] ?_ ?_|refine gC ?_ ?_<;>intro hb
 ·refine Zab rfl rfl (Ze1 rfl ?_ rfl)
  simp only [Zlf,hb,Bool.false_eq_true,if_false]
  exact Zf3 (Zay (Zel (Zay Zbr (Zay Zbr (Zay Zjv (Zal rfl))))) (Zal rfl))
 have hV:=validB_iff.1 hb
 obtain ⟨hn,hpl,hxl,hpos⟩:=id hV
 simp only [Gm.n] at hn hpl hxl
 refine Za2 ([_]) ([_,_]) rfl rfl ?_
 refine gTn Zdg Zdw ?_ ?_
 ·first|exact oA|skip
 refine gCl ([]) (copy_fg (o:=o) (p:=p) (x:=x) (by omega) (by omega) (by omega) (fun v hv=>by have:=(hpos v (by simp only [Gm.n];omega)).1;simp only [Gm.x] at this;omega)) Zdw ?_
 refine gT Zdg Zdw ?_ ?_
 ·first|exact oA|skip
 repeat' first|exact gE|refine gS Zdg Zdw [] ?_|refine gO Zdg Zdw [] ?_ ?_|refine gC ?_ ?_<;>intro hb
 refine Zag (τ:=Nat) (fun i=>i≤o.length∧∀ v,v < i→p.getD v 0≠60) (fun i=>⟨16,[(15,.int .i64 i),(14,.int .i64 o.length),(4,.own 10),(3,.int .i64 0),(2,.own 1),(1,.rop (.agg (.cons (.roI o) (.cons (.roI p) (.cons (.roII x) .nil)))))],
  [(7,some (.ints (du (fun o=>1 - o) o i))),(8,some (.ints (du (fun p=>p+1) p i))),(9,some (.rowsR x)),(1,some (.box (.agg (.cons (.cst (.slice none 0 0)) (.cons (.cst (.slice none 0 0)) (.cons (.cst (.slice none 0 0)) .nil)))))),(10,some (.box (.agg (.cons (.own 7) (.cons (.own 8) (.cons (.own 9) .nil))))))],[]⟩) (fun i=>o.length - i) 0 [] ?_ ⟨Nat.zero_le _,fun v hv=>absurd hv (Nat.not_lt_zero v)⟩ ?_
 ·refine ⟨rfl,?_,?_⟩<;>simp only [zE,evp,evx,ev1,evLoad,evStore,evBin,evIf,Zac,forall_const,z38,tb,reduceAdd,reduceSub,reduceMul,reduceEqDiff,reduceLeDiff,reduceLT,Nat.reduceBEq,Nat.reduceBNe,↓reduceIte,reduceIte,spDual,validS,zI,du_zero]
 rintro i ⟨hi,hno⟩
 have hl1:=du_len (f:=fun o=>1 - o) (xs:=o) (i:=i)
 have hl2:=du_len (f:=fun p=>p+1) (xs:=p) (i:=i)
 have hf1:i < o.length→(du (fun o=>1 - o) o i).getD i 0=o.getD i 0∧0≤o.getD i 0∧o.getD i 0≤1:=fun h=>by
  obtain ⟨⟨a1,a2,a3⟩,_⟩:=hpos i h
  exact ⟨du_getD h,a1,a2⟩
 have hf2:i < o.length→(du (fun p=>p+1) p i).getD i 0=p.getD i 0∧0≤p.getD i 0∧p.getD i 0≤60:=fun h=>by
  obtain ⟨⟨a1,a2,a3,a4,_⟩,_⟩:=hpos i h
  exact ⟨du_getD (by omega),a3,a4⟩
 repeat' first|exact gE|refine gS Zdg Zdw [12] ?_|refine gO Zdg Zdw [12] ?_ ?_|refine gC ?_ ?_<;>intro hb
 ·have hil:i < o.length:=by omega
  have hge:((du (fun p=>p+1) p i).set i ((du (fun p=>p+1) p i).getD i 0+1)).getD i 0=p.getD i 0+1:=by
   rw [Zb5 (by omega),if_pos rfl,(hf2 hil).1]
  rw [hge] at hb
  refine Zab rfl rfl (Ze1 rfl ?_ rfl)
  have hex:∃ v,v < (Gm.mk o p x).n∧p.getD v 0=60:=⟨i,hil,by have:=hf2 hil;omega⟩
  simp only [Zlf,Zeq hV,if_pos hex]
  exact Zf3 (Zay (Zel (Zay Zbr (Zay Zbr (Zay Zjv (Zal rfl))))) (Zal rfl))
 ·have hil:i < o.length:=by omega
  have hge:((du (fun p=>p+1) p i).set i ((du (fun p=>p+1) p i).getD i 0+1)).getD i 0=p.getD i 0+1:=by
   rw [Zb5 (by omega),if_pos rfl,(hf2 hil).1]
  rw [hge] at hb
  refine back (i+1) [] ?_ ⟨by omega,fun v hv=>?_⟩ (by omega)
  ·first|exact leZ Zdw|refine leA Zdw ?_|refine leB Zdw ?_ ?_
   rw [(hf1 hil).1,(hf2 hil).1]
   exact ⟨du_next (f:=fun o=>1 - o) hil,du_next (f:=fun p=>p+1) (by omega)⟩
  ·rcases Nat.lt_succ_iff_lt_or_eq.1 hv with h|rfl
   ·exact hno v h
   ·omega
 have hie:i=o.length:=by omega
 subst hie
 refine Zbb 7 (.roI (du (fun o=>1 - o) o o.length)) ?_
 refine Zbb 8 (.roI (du (fun p=>p+1) p o.length)) ?_
 refine Zbb 9 (.roII x) ?_
 repeat' first|exact gE|refine gS Zdg Zdw [] ?_|refine gO Zdg Zdw [] ?_ ?_|refine gC ?_ ?_<;>intro hb
 refine Zab rfl rfl (Zae rfl ?_ rfl)
 have hex:¬ ∃ v,v < (Gm.mk o p x).n∧p.getD v 0=60:=fun ⟨v,h1,h2⟩=>hno v h1 h2
 simp only [Zlf,Zeq hV,if_neg hex]
 rw [du_all,←hpl,du_all]
 rfl
section
open Go Pl
theorem bC_ask {g:Gm} {odd many l:List Int} {v:Nat}:∀ {r:Nat},0 < r→∃ i,i < r∧bC g odd many l v r=(g.nxt.getD v []).getD i 0∧bB g odd many l v r=askV g odd many l v i
 |0,h=>absurd h (Nat.lt_irrefl 0)
 |r+1,_=>by
  have hC:bC g odd many l v (r+1)=if r=0∨(g.own.getD v 0=0∧askV g odd many l v r < bB g odd many l v r)∨(g.own.getD v 0≠0∧bB g odd many l v r < askV g odd many l v r) then (g.nxt.getD v []).getD r 0 else bC g odd many l v r:=rfl
  have hB:bB g odd many l v (r+1)=if r=0∨(g.own.getD v 0=0∧askV g odd many l v r < bB g odd many l v r)∨(g.own.getD v 0≠0∧bB g odd many l v r < askV g odd many l v r) then askV g odd many l v r else bB g odd many l v r:=rfl
  rw [hC,hB]
  by_cases hc:r=0∨(g.own.getD v 0=0∧askV g odd many l v r < bB g odd many l v r)∨(g.own.getD v 0≠0∧bB g odd many l v r < askV g odd many l v r)
  ·rw [if_pos hc,if_pos hc]
   exact ⟨r,Nat.lt_succ_self r,rfl,rfl⟩
  ·rw [if_neg hc,if_neg hc]
   obtain ⟨i,h1,h2,h3⟩:=bC_ask (g:=g) (odd:=odd) (many:=many) (l:=l) (v:=v) (r:=r) (by omega)
   exact ⟨i,by omega,h2,h3⟩
noncomputable def toF (g:Gm) (v:Nat):Int:=if (meaF g v).1=false∧g.own.getD v 0=0 then bC g (odN g.pri 61) (mnN g.pri 61) (Zeh g (odN g.pri 61) (mnN g.pri 61)) v (g.nxt.getD v []).length else -1
noncomputable def wonL (g:Gm):List Bool:=(List.range g.own.length).map fun v => !(meaF g v).1
noncomputable def toL (g:Gm):List Int:=(List.range g.own.length).map (toF g)
theorem won_low {g:Gm} (hV:Zc1 g) {v:Nat} (hv:v < g.own.length):(meaF g v).1=false↔meaV g v < rpr (mnN g.pri 61):=by
 have:=Zm9 (gok hV) hv
 rw [meaF_eq,deM_fst,decide_eq_false_iff_not]
 omega
theorem Zov {g:Gm} (hV:Zc1 g) {v:Nat} (hv:v < g.own.length) (h1:(meaF g v).1=false) (h2:g.own.getD v 0=0):toF g v∈g.nxt.getD v []∧Zcu (odN g.pri 61) (mnN g.pri 61) (meaV g (toF g v).toNat) (g.pri.getD v 0)≤meaV g v:=by
 have hG:=gok hV
 obtain ⟨i,hi,e1,e2⟩:=bC_ask (g:=g) (odd:=odN g.pri 61) (many:=mnN g.pri 61) (l:=Zeh g (odN g.pri 61) (mnN g.pri 61)) (v:=v) (hG.len v hv).1
 have e:toF g v=(g.nxt.getD v []).getD i 0:=by unfold toF;rw [if_pos ⟨h1,h2⟩];exact e1
 rw [e]
 refine ⟨?_,?_⟩
 ·rw [List.getD_eq_getElem?_getD (l:=g.nxt.getD v []),List.getElem?_eq_getElem hi];exact List.getElem_mem hi
 ·have:=(Zht hG).ok v hv
  unfold Ze0 at this
  rw [e2] at this
  exact this
theorem mea_sol {g:Gm} (hV:Zc1 g):Sol (fun v=>g.own.getD v 0) (fun v=>g.pri.getD v 0) (rws g.nxt) (fun v=>v < g.own.length) (fun v=>(winA g).getD v 0) (fun v=>(toF g v).toNat) 0:=by
 have hG:=gok hV
 have hs:=sol_of_pre (g:=g) (odd:=odN g.pri 61) (many:=mnN g.pri 61) (l:=Zeh g (odN g.pri 61) (mnN g.pri 61)) (c:=fun v=>(toF g v).toNat) Zjq hG.row (fun v hv=>(hG.len v hv).1) (Zht hG).toPre (fun v hv h0 hl=>by
  obtain ⟨h1,h2⟩:=Zov hV hv ((won_low hV hv).2 hl) h0
  exact ⟨List.mem_map.2 ⟨_,h1,rfl⟩,h2⟩)
 refine Sol.congrW hs fun v hv=>?_
 have h1:=mea_win hV hv
 have h2:=(Zfd hV).1 v hv
 by_cases h:meaV g v < rpr (mnN g.pri 61)
 ·rw [h1.1 h];exact (if_pos h).symm
 ·have h3:¬ (winA g).getD v 0=0:=fun e=>h (h1.2 e)
  rw [show (if (Zeh g (odN g.pri 61) (mnN g.pri 61)).getD v 0 < rpr (mnN g.pri 61) then (0:Int) else 1)=1 from if_neg h]
  omega
noncomputable def mslC (g:Gm):List Int:=(List.range g.own.length).map fun v=>if (meaF g v).1=false then toF g v else toF (Zcx g) v
noncomputable def mslW (g:Gm):List Int:=(List.range g.own.length).map fun v=>if (meaF g v).1=false then (0:Int) else 1
theorem msl_win {g:Gm} (hV:Zc1 g):mslW g=winA g:=by
 refine List.ext_getElem (by simp [mslW,winA,winL]) fun v h1 h2=>?_
 have hv:v < g.own.length:=by simpa [mslW] using h1
 have e:(winA g)[v]=(winA g).getD v 0:=by rw [List.getD_eq_getElem?_getD,List.getElem?_eq_getElem h2];rfl
 have h3:=Zmq hV hv
 have h4:=(Zfd hV).1 v hv
 rw [e]
 simp only [mslW,List.getElem_map,List.getElem_range]
 rw [h3]
 rcases h4 with e4|e4<;>rw [e4]<;>rfl
theorem msl_sol {g:Gm} (hV:Zc1 g) (h60:∀ v,v < g.own.length→g.pri.getD v 0≠60):solB g (mslW g) (mslC g)=true:=by
 have hG:=gok hV
 have hVd:=Zij hV h60
 have hn:(Zcx g).own.length=g.own.length:=List.length_map ..
 have ho:∀ v,v < g.own.length→(Zcx g).own.getD v 0=1 - g.own.getD v 0:=fun v hv=>Zfr hv
 have hp:∀ v,v < g.own.length→(Zcx g).pri.getD v 0=g.pri.getD v 0+1:=fun v hv=>Zfr (f:=fun p=>p+1) (by rw [hG.pl];exact hv)
 have hC:∀ v,v < g.own.length→(mslC g).getD v 0=if (meaF g v).1=false then toF g v else toF (Zcx g) v:=fun v hv=>by
  simp [mslC,List.getD_eq_getElem?_getD,hv]
 have hW01:=(Zfd hV).1
 have htop:∀ v,v < g.own.length→((meaF g v).1=false↔(winA g).getD v 0=0):=fun v hv=>by
  rw [Zmq hV hv,decide_eq_false_iff_not]
  have:=hW01 v hv
  omega
 have htopd:∀ v,v < g.own.length→((meaF (Zcx g) v).1=false↔(winA g).getD v 0=1):=fun v hv=>by
  rw [Zmq hVd (by rw [hn];exact hv),decide_eq_false_iff_not,win_turn hV h60 hv]
  have:=hW01 v hv
  omega
 rw [msl_win hV]
 refine (Zhj hV).2 ⟨decide_eq_true ⟨by simp [winA,winL],by simp [mslC],fun v hv=>⟨hW01 v hv,fun h=>?_,fun h=>?_⟩⟩,fun q hq=>?_⟩
 ·rw [hC v hv]
  rcases hW01 v hv with e|e
  ·have hm:=(htop v hv).2 e
   rw [if_pos hm]
   exact (Zov hV hv hm (by rw [h,e])).1
  ·have hm:¬ (meaF g v).1=false:=fun h2=>by have:=(htop v hv).1 h2;omega
   rw [if_neg hm]
   exact (Zov hVd (by rw [hn];exact hv) ((htopd v hv).2 e) (by rw [ho v hv,h,e];rfl)).1
 ·rw [hC v hv]
  have hov:=hG.own v hv
  rcases hW01 v hv with e|e
  ·rw [if_pos ((htop v hv).2 e)]
   unfold toF
   rw [if_neg]
   rintro ⟨_,h2⟩
   omega
  ·have hm:¬ (meaF g v).1=false:=fun h2=>by have:=(htop v hv).1 h2;omega
   rw [if_neg hm]
   unfold toF
   rw [if_neg]
   rintro ⟨_,h2⟩
   rw [ho v hv] at h2
   omega
 ·rcases hq with rfl|rfl
  ·refine Sol.congr (mea_sol hV) fun v hv hw h0=>?_
   rw [hC v hv,if_pos ((htop v hv).2 hw)]
  ·have hd:=mea_sol hVd
   rw [hn] at hd
   have:=Zkm (own':=fun v=>g.own.getD v 0) (pri':=fun v=>g.pri.getD v 0) (W':=fun v=>(winA g).getD v 0) (p':=1) (s := -1) hd rfl (by decide) (fun v hv=>by
    show g.own.getD v 0=1 - (Zcx g).own.getD v 0
    rw [ho v hv];omega) (fun v hv=>by
    show g.pri.getD v 0=(Zcx g).pri.getD v 0 + -1
    rw [hp v hv];omega) (fun v hv=>by
    show (winA g).getD v 0=1 - (winA (Zcx g)).getD v 0
    rw [win_turn hV h60 hv];omega)
   refine Sol.congr this fun v hv hw h0=>?_
   have hm:¬ (meaF g v).1=false:=fun h2=>by
    have:=(htop v hv).1 h2
    have hw:(winA g).getD v 0=1:=hw
    omega
   rw [hC v hv,if_neg hm]
end
end Go.Proofs.YtjcmlflljibikaaGreatDoor.Cal
