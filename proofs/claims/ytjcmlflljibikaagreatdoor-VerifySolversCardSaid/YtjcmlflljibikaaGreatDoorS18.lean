/- Own texts, merged. -/
import Derived.Test.YtjcmlflljibikaaGreatDoorRows
import Derived.ChangeSame
import Derived.ChangeVars
import Derived.JoinedOf
import Derived.LaidLaws
import Derived.LaidHandle
import Derived.Stop.Joined
import Derived.Test.YtjcmlflljibikaaGreatDoorS17
set_option linter.unusedVariables false
set_option linter.unusedSimpArgs false
open Nat (reduceAdd reduceSub reduceMul reduceEqDiff reduceLeDiff reduceLT)
namespace Go.Proofs.YtjcmlflljibikaaGreatDoor.Cal
open Go Pl
noncomputable def wnL (g:Gm) (pl:Int):List Bool:=(List.range g.own.length).map fun v=>decide ((winA g).getD v 0=pl)
theorem wnL_len {g:Gm} {pl:Int}:(wnL g pl).length=g.own.length:=by simp [wnL]
theorem wnL_iff {g:Gm} {pl:Int} {v:Nat} (hv:v < g.own.length):(wnL g pl).getD v false=true↔(winA g).getD v 0=pl:=by
 simp [wnL,List.getD_eq_getElem?_getD,hv]
structure BestC (g:Gm) (pl:Int) (C:List Int):Prop where
 len:C.length=g.own.length
 sol:Sol (fun v=>g.own.getD v 0) (fun v=>g.pri.getD v 0) (rws g.nxt) (fun v=>v < g.own.length) (fun v=>(winA g).getD v 0) (fun v=>(C.getD v 0).toNat) pl
 row:∀ v,v < g.own.length→g.own.getD v 0=pl→(winA g).getD v 0=pl→C.getD v 0∈g.nxt.getD v []
theorem best_win {o p : List Int} {x : List (List Int)} {pl : Int} (hv : Zau ⟨o, p, x⟩ = true) (hp : pl = 0 ∨ pl = 1) : ∃ C, BestC ⟨o, p, x⟩ pl C ∧ FG Tryz.prog 18 [.agg (.cons (.roI o) (.cons (.roI p) (.cons (.roII x) .nil))), .int .i64 pl] [] 0
      (fun g => g = ⟨0, .tup (.cons (.roB (wnL ⟨o, p, x⟩ pl)) (.cons (.roI C) .nil)), []⟩) ∧
      ∃ R k L, BRun (imB o p x pl) R (List.replicate o.length (-1)) k L C ∧ (List.range o.length).map (fun v => (L v).e) = wnL ⟨o, p, x⟩ pl := by
  obtain ⟨R, k, L, C, h1, h2, h3, h4, h5⟩ := best_ex hv hp
  obtain ⟨hK, hmx⟩ := Zk7 hv
  have e : (List.range o.length).map (fun v => (L v).e) = wnL ⟨o, p, x⟩ pl := by
    unfold wnL
    refine List.map_congr_left fun v hvn => ?_
    have := h3 v (List.mem_range.1 hvn)
    rw [Bool.eq_iff_iff, decide_eq_true_eq]
    exact this
  refine ⟨C, ⟨h2, h4, h5⟩, ?_, R, k, L, h1, e⟩
  have := best_fg (o := o) (p := p) (x := x) (pl := pl) hK hmx h1
  rw [e] at this
  exact this
theorem sol_chc {own pri:Nat→Int} {sx:Nat→List Nat} {K:Nat→Prop} {W:Nat→Int} {c c':Nat→Nat} {q:Int} (h:∀ v,K v→W v=q→own v=q→c v=c' v) (hS:Sol own pri sx K W c q):Sol own pri sx K W c' q:=by
 refine ⟨fun v hv hw ho=>?_,hS.his,fun w hw hw2 hp hc=>?_⟩
 ·have:=hS.mine v hv hw ho
  rw [h v hv hw ho] at this
  exact this
 ·refine hS.cyc w hw hw2 hp ?_
  obtain ⟨t,t1,t2⟩:=hc
  exact Zex t1 t2 fun a b ha hb he=>⟨he.1,he.2.1,fun ho=>by rw [he.2.2.1 ho,h a he.1.1 he.1.2 ho],he.2.2.2⟩
noncomputable def rgW (g:Gm) (v:Nat):Int:=if (wnL g 0).getD v false=true then 0 else 1
noncomputable def rgC (g:Gm) (c0 c1:List Int) (v:Nat):Int:=if (wnL g 0).getD v false=true∧g.own.getD v 0=0 then c0.getD v 0 else if (wnL g 0).getD v false=false∧g.own.getD v 0=1 then c1.getD v 0 else -1
theorem rg_sol {g:Gm} (hv:Zau g=true) {c0 c1:List Int} (h0:BestC g 0 c0) (h1:BestC g 1 c1):(List.range g.own.length).map (rgW g)=winA g∧solB g (winA g) ((List.range g.own.length).map (rgC g c0 c1))=true:=by
 have hV:=validB_iff.1 hv
 have hG:=gok hV
 have hw:=(Zfd hV).1
 have hl:(winA g).length=g.own.length:=by simp [winA,winL]
 have hon:∀ v,v < g.own.length→((wnL g 0).getD v false=true↔(winA g).getD v 0=0):=fun v hv=>wnL_iff hv
 have hof:∀ v,v < g.own.length→((wnL g 0).getD v false=false↔(winA g).getD v 0=1):=fun v hv=>by
  have:=hon v hv
  cases e:(wnL g 0).getD v false with
  |true=>rw [this.1 e];exact ⟨fun h=>(by cases h),fun h=>(by cases h)⟩
  |false =>
   refine ⟨fun _=>?_,fun _=>rfl⟩
   rcases hw v hv with h2|h2
   ·have:=this.2 h2;rw [e] at this;cases this
   ·exact h2
 have hC:∀ v,v < g.own.length→((List.range g.own.length).map (rgC g c0 c1)).getD v 0=rgC g c0 c1 v:=fun v hv=>by simp [List.getD_eq_getElem?_getD,hv]
 have hc0:∀ v,v < g.own.length→(winA g).getD v 0=0→g.own.getD v 0=0→rgC g c0 c1 v=c0.getD v 0:=fun v hv h2 h3=>if_pos ⟨(hon v hv).2 h2,h3⟩
 have hc1:∀ v,v < g.own.length→(winA g).getD v 0=1→g.own.getD v 0=1→rgC g c0 c1 v=c1.getD v 0:=fun v hv h2 h3=>by
  unfold rgC
  rw [if_neg (fun h=>by rw [h3] at h;exact absurd h.2 (by decide)),if_pos ⟨(hof v hv).2 h2,h3⟩]
 refine ⟨ext0 (by simp [hl]) fun v hvl=>?_,(Zhj hV).2 ⟨decide_eq_true ⟨hl,by simp,fun v hvn=>⟨hw v hvn,fun ho=>?_,fun ho=>?_⟩⟩,fun q hq=>?_⟩⟩
 ·have hvn:v < g.own.length:=by simpa using hvl
  rw [show ((List.range g.own.length).map (rgW g)).getD v 0=rgW g v by simp [List.getD_eq_getElem?_getD,hvn]]
  unfold rgW
  rcases hw v hvn with h2|h2
  ·rw [if_pos ((hon v hvn).2 h2),h2]
  ·rw [if_neg (by rw [(hof v hvn).2 h2];decide),h2]
 ·rw [hC v hvn]
  rcases hw v hvn with h2|h2
  ·rw [h2] at ho
   rw [hc0 v hvn h2 ho];exact h0.row v hvn ho h2
  ·rw [h2] at ho
   rw [hc1 v hvn h2 ho];exact h1.row v hvn ho h2
 ·rw [hC v hvn]
  unfold rgC
  rw [if_neg,if_neg]
  ·rintro ⟨h2,h3⟩
   exact ho (h3.trans ((hof v hvn).1 h2).symm)
  ·rintro ⟨h2,h3⟩
   exact ho (h3.trans ((hon v hvn).1 h2).symm)
 ·rcases hq with rfl|rfl
  ·exact sol_chc (fun v hvn h2 h3=>by rw [hC v hvn,hc0 v hvn h2 h3]) h0.sol
  ·exact sol_chc (fun v hvn h2 h3=>by rw [hC v hvn,hc1 v hvn h2 h3]) h1.sol
noncomputable def spSv : Nat→Option Spec
 |13=>some validS
 |_=>none
theorem Zbg : SpOK Tryz.prog spSv:=by
 intro f S h
 unfold spSv at h
 split at h
 ·cases h;exact Zgo
 ·cases h
def Zav := Hd.mk (And.intro @spSv.eq_1<|@validS.eq_1)
set_option maxRecDepth 4000 in
set_option maxHeartbeats 4000000 in
theorem isolve_fg {o p:List Int} {x:List (List Int)} :
  FG Tryz.prog 8 [.agg (.cons (.roI o) (.cons (.roI p) (.cons (.roII x) .nil)))] [] 0 fun g=>∃ (W C:List Int) (e:Int),((Zau ⟨o,p,x⟩=false∧W=[]∧C=[]∧e=1)∨(Zau ⟨o,p,x⟩=true∧e=0∧W=winA ⟨o,p,x⟩∧solB ⟨o,p,x⟩ W C=true))∧g=⟨0,resV [.agg (.cons (.roI W) (.cons (.roI C) .nil)),.int .i64 e],[]⟩:=by
 refine Zc5 htb (fn:=Tryz.f8) (by kernel_rfl) (by kernel_rfl) rfl (Nat.le_of_ble_eq_true rfl) fun hl=>?_
 simp only [lenP,mkL,lim] at hl
 repeat' first|exact gE|refine gS Zbg Zav [2,3] ?_|refine gO Zbg Zav [2,3] ?_ ?_|refine gC ?_ ?_<;>intro hb
 ·repeat' first|exact gE|refine gS Zbg Zav [] ?_|refine gO Zbg Zav [] ?_ ?_|refine gC ?_ ?_<;>intro hb
  have hv:Zau ⟨o,p,x⟩=false:=by cases h:Zau ⟨o,p,x⟩ with|false=>rfl|true=>rw [h] at hb;cases hb
  refine Zab rfl rfl (Zbe ⟨0,resV [.agg (.cons (.roI []) (.cons (.roI []) .nil)),.int .i64 1],[]⟩ [] ⟨[],[],1,.inl ⟨hv,rfl,rfl,rfl⟩,rfl⟩ rfl ?_ trivial)
  exact Zf3 (Zay (Zel (Zay Zbr (Zay Zbr (Zal rfl)))) (Zal rfl))
 have hv:=hb
 clear hb
 obtain ⟨hK,_⟩:=Zk7 hv
 have hn:o.length≤20000:=hK.n
 obtain ⟨c0,h0,hf0,_⟩:=best_win hv (.inl rfl)
 obtain ⟨c1,h1,hf1,_⟩:=best_win hv (.inr rfl)
 have hl0:c0.length=o.length:=h0.len
 have hl1:c1.length=o.length:=h1.len
 have hwl:(wnL ⟨o,p,x⟩ 0).length=o.length:=wnL_len
 obtain ⟨hrW,hrC⟩:=rg_sol hv h0 h1
 refine Za2 ([_]) ([_,_,_,_,_]) rfl rfl ?_
 refine gTn Zbg Zav ?_ ?_
 ·first|exact oA|skip
 refine gCl ([]) (hf0) Zav ?_
 refine gT Zbg Zav ?_ ?_
 ·first|exact oA|skip
 refine Zaf ?_
 repeat' first|exact gE|refine gS Zbg Zav [4] ?_|refine gO Zbg Zav [4] ?_ ?_|refine gC ?_ ?_<;>intro hb
 refine Za2 ([_]) ([_,_,_,_,_]) rfl rfl ?_
 refine gTn Zbg Zav ?_ ?_
 ·first|exact oA|skip
 refine gCl ([]) (hf1) Zav ?_
 refine gT Zbg Zav ?_ ?_
 ·first|exact oA|skip
 refine Zaf ?_
 repeat' first|exact gE|refine gS Zbg Zav [7] ?_|refine gO Zbg Zav [7] ?_ ?_|refine gC ?_ ?_<;>intro hb
 have e1:List.replicate (wnL ⟨o,p,x⟩ 0).length (0:Int)=mix (rgW ⟨o,p,x⟩) (fun _=>0) o.length 0:=List.ext_getElem (by simp [mix,hwl]) fun j h1 h2=>by simp [mix]
 have e2:List.replicate (wnL ⟨o,p,x⟩ 0).length (0:Int)=mix (rgC ⟨o,p,x⟩ c0 c1) (fun _=>0) o.length 0:=List.ext_getElem (by simp [mix,hwl]) fun j h1 h2=>by simp [mix]
 have hgW:∀ v,rgW ⟨o,p,x⟩ v=if (wnL ⟨o,p,x⟩ 0).getD v false=true then 0 else 1:=fun v=>rfl
 have hgC:∀ v,rgC ⟨o,p,x⟩ c0 c1 v=if (wnL ⟨o,p,x⟩ 0).getD v false=true∧o.getD v 0=0 then c0.getD v 0 else if (wnL ⟨o,p,x⟩ 0).getD v false=false∧o.getD v 0=1 then c1.getD v 0 else -1:=fun v=>rfl
 have hrW:(List.range o.length).map (rgW ⟨o,p,x⟩)=winA ⟨o,p,x⟩:=hrW
 have hrC:solB ⟨o,p,x⟩ (winA ⟨o,p,x⟩) ((List.range o.length).map (rgC ⟨o,p,x⟩ c0 c1))=true:=hrC
 clear h0 h1 hf0 hf1
 generalize wnL ⟨o,p,x⟩ 1=won1 at *
 generalize rgW ⟨o,p,x⟩=fW at *
 generalize rgC ⟨o,p,x⟩ c0 c1=fC at *
 generalize wnL ⟨o,p,x⟩ 0=won at *
 refine Zag (τ:=Nat) (fun i=>i≤o.length) (fun i=>⟨30,[(33,.int .i64 i),(32,.int .i64 o.length),(8,.own 25),(7,.roI c1),(5,.roI c0),(4,.roB won),(3,.int .i64 0),(2,.own 1),(1,.rop (.agg (.cons (.roI o) (.cons (.roI p) (.cons (.roII x) .nil)))))],[(20,some (.ints (mix fW (fun _=>0) o.length i))),(23,some (.ints (mix fC (fun _=>0) o.length i))),(25,some (.box (.agg (.cons (.own 20) (.cons (.own 23) .nil))))),(1,some (.box (.agg (.cons (.cst (.slice none 0 0)) (.cons (.cst (.slice none 0 0)) .nil)))))],[]⟩) (fun i=>o.length - i) 0 [] ?_ (Nat.zero_le _) ?_
 ·first|exact leZ Zav|refine leA Zav ?_|refine leB Zav ?_ ?_
  ·rw [hwl]
  ·exact ⟨e1,e2⟩
 intro i hi
 have hmW:=Zfj (f:=fW) (h:=fun _=>0) (n:=o.length) (i:=i)
 have hmC:=Zfj (f:=fC) (h:=fun _=>0) (n:=o.length) (i:=i)
 have hkW:=Zk2 (f:=fW) (h:=fun _=>0) (n:=o.length) (i:=i)
 have hlW:=Zfk (f:=fW) (h:=fun _=>0) (n:=o.length) (i:=i)
 have hlC:=Zfk (f:=fC) (h:=fun _=>0) (n:=o.length) (i:=i)
 have hgWi:=hgW i
 have hgCi:=hgC i
 repeat' first|exact gE|refine gS Zbg Zav [8,17] ?_|refine gO Zbg Zav [8,17] ?_ ?_|refine gC ?_ ?_<;>intro hb
 ·have hil:i < o.length:=by omega
  repeat' first|exact gE|refine gS Zbg Zav [11,12,16] ?_|refine gO Zbg Zav [11,12,16] ?_ ?_|refine gC ?_ ?_<;>intro hb
  ·have e3:fC i=c0.getD i 0:=by rw [hgCi,if_pos hb]
   have e4:fW i=0:=by rw [hgWi,if_pos hb.1]
   rw [e3] at hmC
   repeat' first|exact gE|refine gS Zbg Zav [] ?_|refine gO Zbg Zav [] ?_ ?_|refine gC ?_ ?_<;>intro hb
   refine back (i+1) [] ?_ (by omega) (by omega)
   first|exact leZ Zav|refine leA Zav ?_|refine leB Zav ?_ ?_
   exact ⟨hkW e4,by rw [List.set_set];exact hmC⟩
  ·clear hgW hgC
   repeat' first|exact gE|refine gS Zbg Zav [13,14,16] ?_|refine gO Zbg Zav [13,14,16] ?_ ?_|refine gC ?_ ?_<;>intro hb
   ·have hf:won.getD i false=false:=hb
    have e4:fW i=1:=by rw [hgWi,if_neg (by rw [hf];decide)]
    rw [e4] at hmW
    rw [if_neg (fun h=>by rw [hf] at h;exact absurd h.1 (by decide))] at hgCi
    repeat' first|exact gE|refine gS Zbg Zav [14] ?_|refine gO Zbg Zav [14] ?_ ?_|refine gC ?_ ?_<;>intro hb
    repeat' first|exact gE|refine gS Zbg Zav [15,16,17] ?_|refine gO Zbg Zav [15,16,17] ?_ ?_|refine gC ?_ ?_<;>intro hb
    ·rw [if_pos ⟨hf,by assumption⟩] at hgCi
     rw [hgCi] at hmC
     repeat' first|exact gE|refine gS Zbg Zav [] ?_|refine gO Zbg Zav [] ?_ ?_|refine gC ?_ ?_<;>intro hb
     refine back (i+1) [] ?_ (by omega) (by omega)
     first|exact leZ Zav|refine leA Zav ?_|refine leB Zav ?_ ?_
     exact ⟨hmW,by rw [List.set_set];exact hmC⟩
    ·rw [if_neg (fun h=>absurd h.2 (by assumption))] at hgCi
     rw [hgCi] at hmC
     repeat' first|exact gE|refine gS Zbg Zav [] ?_|refine gO Zbg Zav [] ?_ ?_|refine gC ?_ ?_<;>intro hb
     refine back (i+1) [] ?_ (by omega) (by omega)
     first|exact leZ Zav|refine leA Zav ?_|refine leB Zav ?_ ?_
     exact ⟨hmW,hmC⟩
   ·have hf:won.getD i false=true:=hb
    rename_i hq
    have hno:o.getD i 0≠0:=fun h=>by
     rcases hq with h2|h2
     ·rw [hf] at h2;cases h2
     ·exact h2 h
    have e4:fW i=0:=by rw [hgWi,if_pos hf]
    rw [if_neg (fun h=>hno h.2),if_neg (fun h=>by rw [hf] at h;exact absurd h.1 (by decide))] at hgCi
    rw [hgCi] at hmC
    repeat' first|exact gE|refine gS Zbg Zav [] ?_|refine gO Zbg Zav [] ?_ ?_|refine gC ?_ ?_<;>intro hb
    refine back (i+1) [] ?_ (by omega) (by omega)
    first|exact leZ Zav|refine leA Zav ?_|refine leB Zav ?_ ?_
    exact ⟨hkW e4,hmC⟩
 have hie:i=o.length:=by omega
 subst hie
 rw [Zfl,Zfl,hrW]
 refine Zbb 20 (.roI (winA ⟨o,p,x⟩)) ?_
 refine Zbb 23 (.roI ((List.range o.length).map fC)) ?_
 repeat' first|exact gE|refine gS Zbg Zav [] ?_|refine gO Zbg Zav [] ?_ ?_|refine gC ?_ ?_<;>intro hb
 refine Zab rfl rfl (Zbe ⟨0,resV [.agg (.cons (.roI (winA ⟨o,p,x⟩)) (.cons (.roI ((List.range o.length).map fC)) .nil)),.int .i64 0],[]⟩ [] ⟨_,_,0,.inr ⟨hv,rfl,rfl,hrC⟩,rfl⟩ rfl (Zal rfl) trivial)
open Go Pl
theorem imp_nil22 : Imp (.agg (.cons (.cst (.slice none 0 0)) (.cons (.cst (.slice none 0 0)) .nil))) (.agg (.cons (.roI []) (.cons (.roI []) .nil))):=Zel (Zay Zbr (Zay Zbr (Zal rfl)))
theorem chk_sol {g:Gm} {w c s l:List Int} {e:Int} (hv:Zau g=true) (hs:solB g w c=true) (h:chkQ g w c s l e):e=0∧s=[]∧l=[]:=by
 rcases h with ⟨h,_⟩|⟨_,h,_⟩|⟨_,_,_,h⟩|⟨_,_,h,_⟩
 ·rw [hv] at h;cases h
 ·unfold solB at hs;rw [h] at hs;cases hs
 ·exact h
 ·have:=h.ag
  rw [sol_no hv hs h.is] at this;cases this
noncomputable def spAc : Nat→Option Spec
 |20=>some gvnS
 |19=>some smpS
 |_=>none
theorem Zfg : SpOK Tryz.prog spAc:=by
 intro f S h
 unfold spAc at h
 split at h
 ·cases h;exact gtp_ok
 ·cases h;exact smp_ok
 ·cases h
def Ze9 := Hd.mk (And.intro @spAc.eq_1<|And.intro @spAc.eq_2<|And.intro @gvnS.eq_1<|And.intro @smpS.eq_1<|And.intro @Zbv<|And.intro @Zbx<|And.intro @Zbw<|And.intro @true_and<|@and_true)
set_option maxRecDepth 4000 in
set_option maxHeartbeats 4000000 in
theorem Zob {o p w c:List Int} {x:List (List Int)} (hv:Zau ⟨o,p,x⟩=true) (hs:solB ⟨o,p,x⟩ w c=true):FG Tryz.prog 9 [.agg (.cons (.roI o) (.cons (.roI p) (.cons (.roII x) .nil))),.agg (.cons (.roI w) (.cons (.roI c) .nil))] [(0,some glB)] 1 fun g=>g=⟨1,.bool true,[(0,some glB)]⟩:=by
 refine Zc5 htb (fn:=Tryz.f9) (by kernel_rfl) (by kernel_rfl) rfl (Nat.le_of_ble_eq_true rfl) fun hl=>?_
 simp only [lenP,mkL,lim] at hl
 repeat' first|exact gE|refine gS Zfg Ze9 [1] ?_|refine gO Zfg Ze9 [1] ?_ ?_|refine gC ?_ ?_<;>intro hb
 refine Zcf rfl ?_
 refine Zb6 (l1:=[_,_]) (l2:=[_,_,_,_,_,_,_]) ?_
 refine gTn Zfg Ze9 ?_ ?_
 ·first|exact oA|skip
 refine Zb6 (l1:=[_]) (l2:=[_,_,_,_,_,_]) ?_
 refine gCo ([0]) (Zi9) Ze9 ?_;intro gm gv gr hq m' e' l' h
 obtain ⟨s,l,e,hQ,hq⟩:=hq
 unfold rsA at hq
 obtain ⟨rfl,rfl,rfl⟩:=chk_sol hv hs hQ
 clear hQ
 refine gCf hq h Ze9 ?_
 refine gT Zfg Ze9 ?_ ?_
 ·first|exact oA|skip
 refine Zaf ?_
 repeat' first|exact gE|refine gS Zfg Ze9 [2] ?_|refine gO Zfg Ze9 [2] ?_ ?_|refine gC ?_ ?_<;>intro hb
 refine Zfu ?_
 refine Zep htb hmz Zfg (fun _=>false) 0 [] (os:=[_,_,_,_,_,_]) (post:=[_,_,_]) rfl rfl rfl rfl rfl ?_;intro _ _ _ _ h;simp only [zE,evp,evx,ev1,evLoad,evStore,evBin,evIf,Zac,forall_const,z38,tb,reduceAdd,reduceSub,reduceMul,reduceEqDiff,reduceLeDiff,reduceLT,Nat.reduceBEq,Nat.reduceBNe,↓reduceIte,reduceIte,spAc,gvnS,smpS,Zbv,Zbx,Zbw,true_and,and_true] at h;obtain ⟨rfl,rfl,rfl,rfl⟩:=h;refine ⟨?_,?_⟩
 ·first|exact oA|skip
 refine Zd2 18 (.whn true (.agg (.cons (.roI []) (.cons (.roI []) .nil)))) (imp_whn imp_nil22) rfl ?_
 refine Zep htb hmz Zfg (fun _=>false) 6 [_,_,_,_,_,_] (os:=[_,_,_]) (post:=[]) rfl rfl rfl rfl rfl ?_;intro _ _ _ _ h;simp only [zE,evp,evx,ev1,evLoad,evStore,evBin,evIf,Zac,forall_const,z38,tb,reduceAdd,reduceSub,reduceMul,reduceEqDiff,reduceLeDiff,reduceLT,Nat.reduceBEq,Nat.reduceBNe,↓reduceIte,reduceIte,spAc,gvnS,smpS,Zbv,Zbx,Zbw,true_and,and_true] at h;obtain ⟨rfl,rfl,rfl,rfl⟩:=h;refine ⟨?_,?_⟩
 ·first|exact oA|skip
 refine Zg0 ?_
 refine Zaf ?_
 repeat' first|exact gE|refine gS Zfg Ze9 [] ?_|refine gO Zfg Ze9 [] ?_ ?_|refine gC ?_ ?_<;>intro hb
 refine Zab rfl rfl (Zbe ⟨1,.bool true,[(0,some glB)]⟩ [] rfl rfl (Zal rfl) ?_)
 simp only [grR,zE,evp,evx,ev1,evLoad,evStore,evBin,evIf,Zac,forall_const,z38,tb,reduceAdd,reduceSub,reduceMul,reduceEqDiff,reduceLeDiff,reduceLT,Nat.reduceBEq,Nat.reduceBNe,↓reduceIte,reduceIte,spAc,gvnS,smpS,Zbv,Zbx,Zbw,true_and,and_true]
noncomputable def spVs : Nat→Option Spec
 |4=>some fewS
 |_=>none
theorem Zb1 : SpOK Tryz.prog spVs:=by
 intro f S h
 unfold spVs at h
 split at h
 ·cases h;exact few_ok
 ·cases h
theorem Zis {v:AV}:Imp (.whn true v) v:=fun Z w ν cs hr=>hr.1 rfl
def xW22m_2 := Hd.mk (And.intro @spVs.eq_1<|And.intro @fewS.eq_1<|And.intro @Zbv<|And.intro @Zbx<|And.intro @Zbw<|And.intro @true_and<|@and_true)
set_option maxRecDepth 4000 in
set_option maxHeartbeats 8000000 in
theorem vso_fg {o p:List Int} {x:List (List Int)}:FG Tryz.prog 3 [.agg (.cons (.roI o) (.cons (.roI p) (.cons (.roII x) .nil)))] [(0,some glB)] 1 fun g=>g=⟨1,.bool true,[(0,some glB)]⟩:=by
 refine Zc5 htb (fn:=Tryz.f3) (by kernel_rfl) (by kernel_rfl) rfl (Nat.le_of_ble_eq_true rfl) fun hl=>?_
 simp only [lenP,mkL,lim] at hl
 repeat' first|exact gE|refine gS Zb1 xW22m_2 [2,3] ?_|refine gO Zb1 xW22m_2 [2,3] ?_ ?_|refine gC ?_ ?_<;>intro hb
 ·refine Zcf rfl ?_
  refine Zb6 (l1:=[_]) (l2:=[_]) ?_
  refine gCl ([0]) (awake16_fg) xW22m_2 ?_
  refine gT Zb1 xW22m_2 ?_ ?_
  ·first|exact oA|skip
  refine Zaf ?_
  repeat' first|exact gE|refine gS Zb1 xW22m_2 [] ?_|refine gO Zb1 xW22m_2 [] ?_ ?_|refine gC ?_ ?_<;>intro hb
  refine Zab rfl rfl (Zbe ⟨1,.bool true,[(0,some glB)]⟩ [] rfl rfl (Zal rfl) ?_)
  simp only [grR,zE,evp,evx,ev1,evLoad,evStore,evBin,evIf,Zac,forall_const,z38,tb,reduceAdd,reduceSub,reduceMul,reduceEqDiff,reduceLeDiff,reduceLT,Nat.reduceBEq,Nat.reduceBNe,↓reduceIte,reduceIte,spVs,fewS,Zbv,Zbx,Zbw,true_and,and_true]
 clear hb
 refine Zcf rfl ?_
 refine Zb6 (l1:=[_]) (l2:=[_,_,_,_,_,_,_]) ?_
 refine gTn Zb1 xW22m_2 ?_ ?_
 ·first|exact oA|skip
 refine Zb6 (l1:=[_]) (l2:=[_,_,_,_,_,_]) ?_
 refine gCo ([]) (zsolve_fg) xW22m_2 ?_;intro gm gv gr hq m' e' l' h
 obtain ⟨W1,C1,e1,hZ,hq⟩:=hq
 refine gCf hq h xW22m_2 ?_
 refine gT Zb1 xW22m_2 ?_ ?_
 ·first|exact oA|skip
 refine Zaf ?_
 repeat' first|exact gE|refine gS Zb1 xW22m_2 [4] ?_|refine gO Zb1 xW22m_2 [4] ?_ ?_|refine gC ?_ ?_<;>intro hb
 refine Zcf rfl ?_
 refine Zb6 (l1:=[_]) (l2:=[_,_,_,_,_,_,_]) ?_
 refine gTn Zb1 xW22m_2 ?_ ?_
 ·first|exact oA|skip
 refine Zb6 (l1:=[_]) (l2:=[_,_,_,_,_,_]) ?_
 refine gCo ([]) (msl_fg) xW22m_2 ?_;intro gm gv gr hq m' e' l' h
 obtain ⟨W2,C2,e2,hM,hq⟩:=hq
 refine gCf hq h xW22m_2 ?_
 refine gT Zb1 xW22m_2 ?_ ?_
 ·first|exact oA|skip
 refine Zaf ?_
 repeat' first|exact gE|refine gS Zb1 xW22m_2 [5] ?_|refine gO Zb1 xW22m_2 [5] ?_ ?_|refine gC ?_ ?_<;>intro hb
 refine Zcf rfl ?_
 refine Zb6 (l1:=[_]) (l2:=[_,_,_,_,_,_,_]) ?_
 refine gTn Zb1 xW22m_2 ?_ ?_
 ·first|exact oA|skip
 refine Zb6 (l1:=[_]) (l2:=[_,_,_,_,_,_]) ?_
 refine gCo ([]) (isolve_fg) xW22m_2 ?_;intro gm gv gr hq m' e' l' h
 obtain ⟨W3,C3,e3,hI,hq⟩:=hq
 refine gCf hq h xW22m_2 ?_
 refine gT Zb1 xW22m_2 ?_ ?_
 ·first|exact oA|skip
 refine Zaf ?_
 obtain ⟨b1,hb1⟩:∃ b,decide (e1=0)=b:=⟨_,rfl⟩
 obtain ⟨b2,hb2⟩:∃ b,decide (e2=0)=b:=⟨_,rfl⟩
 obtain ⟨b3,hb3⟩:∃ b,decide (e3=0)=b:=⟨_,rfl⟩
 have hz1:b1=true→Zau ⟨o,p,x⟩=true∧solB ⟨o,p,x⟩ W1 C1=true:=fun h=>by
  have he:e1=0:=of_decide_eq_true (hb1.trans h)
  rcases hZ with ⟨_,h,_⟩|⟨hv,⟨_,hs,_⟩|⟨h,_⟩⟩
  ·omega
  ·exact ⟨hv,hs⟩
  ·omega
 have hz2:b2=true→Zau ⟨o,p,x⟩=true∧solB ⟨o,p,x⟩ W2 C2=true:=fun h=>by
  have he:e2=0:=of_decide_eq_true (hb2.trans h)
  rcases hM with ⟨h,_⟩|⟨hv,h60,_,rfl,rfl⟩
  ·omega
  ·exact ⟨hv,msl_sol (validB_iff.1 hv) h60⟩
 have hz3:b3=true→Zau ⟨o,p,x⟩=true∧solB ⟨o,p,x⟩ W3 C3=true:=fun h=>by
  have he:e3=0:=of_decide_eq_true (hb3.trans h)
  rcases hI with ⟨_,_,_,h⟩|⟨hv,_,_,hs⟩
  ·omega
  ·exact ⟨hv,hs⟩
 clear hZ hM hI
 have xv:=Hd.mk (And.intro hb1<|And.intro hb2<|And.intro hb3 xW22m_2.h)
 repeat' first|exact gE|refine gS Zb1 xv [6] ?_|refine gO Zb1 xv [6] ?_ ?_|refine gC ?_ ?_<;>intro hb
 refine Zfu ?_
 cases b1
 all_goals
  refine Zep htb hmz Zb1 (fun _=>false) 0 [] (os:=[_,_,_,_,_]) (post:=[_,_,_,_,_,_,_,_,_,_,_,_,_,_,_,_,_,_,_,_,_,_,_]) rfl rfl rfl rfl rfl ?_;intro _ _ _ _ h;simp only [zE,evp,evx,ev1,evLoad,evStore,evBin,evIf,Zac,forall_const,z38,tb,reduceAdd,reduceSub,reduceMul,reduceEqDiff,reduceLeDiff,reduceLT,Nat.reduceBEq,Nat.reduceBNe,↓reduceIte,reduceIte,spVs,fewS,Zbv,Zbx,Zbw,true_and,and_true,hb1,hb2,hb3] at h;obtain ⟨rfl,rfl,rfl,rfl⟩:=h;refine ⟨?_,?_⟩
  ·first|exact oA|skip
  first
   |refine Zez rfl rfl rfl rfl rfl ?_
    dsimp only [putE]
   |refine Zd2 31 _ Zis rfl ?_
    refine Zd2 32 _ Zis rfl ?_
    refine Zd1 rfl rfl rfl rfl ?_
    dsimp only [noGd]
    refine gCl ([0]) (Zob (hz1 rfl).1 (hz1 rfl).2) xv ?_
 all_goals
  cases b2
  all_goals
   refine Zep htb hmz Zb1 (fun _=>false) 6 [_,_,_,_,_,_] (os:=[_,_,_,_,_,_,_,_]) (post:=[_,_,_,_,_,_,_,_,_,_,_,_,_,_]) rfl rfl rfl rfl rfl ?_;intro _ _ _ _ h;simp only [zE,evp,evx,ev1,evLoad,evStore,evBin,evIf,Zac,forall_const,z38,tb,reduceAdd,reduceSub,reduceMul,reduceEqDiff,reduceLeDiff,reduceLT,Nat.reduceBEq,Nat.reduceBNe,↓reduceIte,reduceIte,spVs,fewS,Zbv,Zbx,Zbw,true_and,and_true,hb1,hb2,hb3] at h;obtain ⟨rfl,rfl,rfl,rfl⟩:=h;refine ⟨?_,?_⟩
   ·first|exact oA|skip
   refine Zd2 39 _ Zis rfl ?_
   first
    |refine Zez rfl rfl rfl rfl rfl ?_
     dsimp only [putE]
    |refine Zd2 40 _ Zis rfl ?_
     refine Zd2 41 _ Zis rfl ?_
     refine Zd1 rfl rfl rfl rfl ?_
     dsimp only [noGd]
     refine gCl ([0]) (Zob (hz2 rfl).1 (hz2 rfl).2) xv ?_
 all_goals
  cases b3
  all_goals
   refine Zep htb hmz Zb1 (fun _=>false) 15 [_,_,_,_,_,_,_,_,_,_,_,_,_,_,_] (os:=[_,_,_,_,_,_,_,_,_]) (post:=[_,_,_,_]) rfl rfl rfl rfl rfl ?_;intro _ _ _ _ h;simp only [zE,evp,evx,ev1,evLoad,evStore,evBin,evIf,Zac,forall_const,z38,tb,reduceAdd,reduceSub,reduceMul,reduceEqDiff,reduceLeDiff,reduceLT,Nat.reduceBEq,Nat.reduceBNe,↓reduceIte,reduceIte,spVs,fewS,Zbv,Zbx,Zbw,true_and,and_true,hb1,hb2,hb3] at h;obtain ⟨rfl,rfl,rfl,rfl⟩:=h;refine ⟨?_,?_⟩
   ·first|exact oA|skip
   refine Zd2 49 _ Zis rfl ?_
   first
    |refine Zez rfl rfl rfl rfl rfl ?_
     dsimp only [putE]
    |refine Zd2 50 _ Zis rfl ?_
     refine Zd2 51 _ Zis rfl ?_
     refine Zd1 rfl rfl rfl rfl ?_
     dsimp only [noGd]
     refine gCl ([0]) (Zob (hz3 rfl).1 (hz3 rfl).2) xv ?_
 all_goals
  refine Zep htb hmz Zb1 (fun _=>false) 25 [_,_,_,_,_,_,_,_,_,_,_,_,_,_,_,_,_,_,_,_,_,_,_,_,_] (os:=[_,_,_]) (post:=[]) rfl rfl rfl rfl rfl ?_;intro _ _ _ _ h;simp only [zE,evp,evx,ev1,evLoad,evStore,evBin,evIf,Zac,forall_const,z38,tb,reduceAdd,reduceSub,reduceMul,reduceEqDiff,reduceLeDiff,reduceLT,Nat.reduceBEq,Nat.reduceBNe,↓reduceIte,reduceIte,spVs,fewS,Zbv,Zbx,Zbw,true_and,and_true,hb1,hb2,hb3] at h;obtain ⟨rfl,rfl,rfl,rfl⟩:=h;refine ⟨?_,?_⟩
  ·first|exact oA|skip
  refine Zg0 ?_
  refine Zaf ?_
  repeat' first|exact gE|refine gS Zb1 xv [7,8] ?_|refine gO Zb1 xv [7,8] ?_ ?_|refine gC ?_ ?_<;>intro hb
  ·cases hb
  clear hb
  refine Zcf rfl ?_
  refine Zb6 (l1:=[_]) (l2:=[_]) ?_
  refine gCl ([0]) (awake16_fg) xv ?_
  refine gT Zb1 xv ?_ ?_
  ·first|exact oA|skip
  refine Zaf ?_
  repeat' first|exact gE|refine gS Zb1 xv [] ?_|refine gO Zb1 xv [] ?_ ?_|refine gC ?_ ?_<;>intro hb
  refine Zab rfl rfl (Zbe ⟨1,.bool true,[(0,some glB)]⟩ [] rfl rfl (Zal rfl) ?_)
  simp only [grR,zE,evp,evx,ev1,evLoad,evStore,evBin,evIf,Zac,forall_const,z38,tb,reduceAdd,reduceSub,reduceMul,reduceEqDiff,reduceLeDiff,reduceLT,Nat.reduceBEq,Nat.reduceBNe,↓reduceIte,reduceIte,spVs,fewS,Zbv,Zbx,Zbw,true_and,and_true,hb1,hb2,hb3]
open Go Go.ChangeShapes Go.WideShapes Go.ChangeAt Go.RowKit Go.Deep
def ldL : List (String × DataW Unit) := [("errors.errorType", Rows.laid_errors_errorType)]
theorem etN : Tryz.prog.globalNamed "errors.errorType" = some 0 := by kernel_rfl
theorem rtN : (Tryz.prog.cutTypes.find? (·.1 == "internal/reflectlite.rtype")).map (·.2) = some 137 := by kernel_rfl
theorem tySize : Tryz.prog.types.size=193:=by kernel_rfl
theorem oneRow : ((List.range 193).filter fun t=>Tryz.prog.rowNamed t [101,114,114,111,114])=[62]:=by kernel_rfl
theorem handle_of_laid {W:World} (h:laidMetH Tryz.prog ldL W):W.cell? ⟨0,0,none⟩=some (.iface 137 (.agg #[.pointer (some ⟨1,62,none⟩)])):=by
 have h':laidMet Tryz.prog [] W∧handlesMet Tryz.prog ldL W:=h
 obtain ⟨name,u,ty,e1,e2,e3,e4,e5⟩:=h'.2 _ (List.mem_singleton.2 rfl)
 have en:name=[101,114,114,111,114]:=(Option.some.inj e1).symm
 subst en
 obtain rfl:=Option.some.inj (rtN.symm.trans e2)
 have hm:ty∈(List.range 193).filter fun t=>Tryz.prog.rowNamed t [101,114,114,111,114]:=List.mem_filter.2 ⟨List.mem_range.2 (by rw [←tySize];exact e3),e4⟩
 rw [oneRow] at hm
 obtain rfl:=List.mem_singleton.1 hm
 have hh:typeHandle Tryz.prog 62=.pointer (some ⟨1,62,none⟩):=by kernel_rfl
 rw [hh] at e5
 simpa using World.var?_cell etN e5 0
noncomputable def laidWorld (os:Os):World :=
 let w0:=World.holding Tryz.prog os ⟨#[],#[],[]⟩
 { w0 with heap:=w0.heap.modify 0 fun
   |.cells _ t frozen=>.cells #[.iface 137 (.agg #[.pointer (some ⟨1,62,none⟩)])] t frozen
   |o=>o }
theorem laidWorld_met (os:Os) (args:Array Value):laidMetH Tryz.prog ldL ((laidWorld os).forCall (fun _ _=>0) ⟨#[],args,[]⟩).memory :=
 laidMetH_of_parts (laidMet_nil _ _) (by kernel_rfl)
theorem law_callsG {f:Nat} {args:List AV} {W:World} {vals:Array Value} (hS:FG Tryz.prog f args [(0,some glB)] 1 fun g=>g=⟨1,.bool true,[(0,some glB)]⟩) (hm:men noK (mkL args)=true) (hgl:W.cell? ⟨0,0,none⟩=some (.iface 137 (.agg #[.pointer (some ⟨1,62,none⟩)]))) (hr:R (old W) W (mkL args) nu0 true vals.toList) :
  Calls Tryz.prog f vals W fun e W'=>e=.returned (.bool true)∧Below W.heap.size W W':=by
 have h0:0 < W.heap.size:=by
  unfold World.cell? at hgl
  rcases Nat.lt_or_ge 0 W.heap.size with h|h
  ·exact h
  ·rw [Array.getElem?_eq_none h] at hgl;cases hgl
 have:=hS.2 (old W) (old W) nu0 W vals (fun _=>rfl) hr (Zce hm) ⟨fun _ _=>False,fun k b h=>?_⟩ (fun _ h=>h) (fun _ h=>h)
 ·refine CallsIn.calls (F:=FF none) (n:=0) (CallsIn.mono (Zeo this) ?_) (fun k d hd=>by cases hd)
  rintro e W' ⟨y,Z',ν',v,μ',rs',rfl,hst,_,_,_,hr',_,_,_,g,rfl,rfl,_⟩
  have:y=.bool true:=one1 hr'
  subst this
  exact ⟨rfl,hst.ext.os,hst.ext.tape,hst.ext.output,hst.ext.size,fun k hk=>hst.ext.block k hk⟩
 ·rw [Zai] at h
  by_cases e:k=0
  ·subst e
   rw [if_pos rfl] at h
   cases h
   refine ⟨rfl,(fun k hk=>by cases hk),fun Z' w' hZ hw=>⟨fun y hy=>hy,hZ 0 h0,?_⟩,fun x hx=>hx.elim,fun k' b' hne hk' x hx=>hx.elim⟩
   exact (World.cell?_of_block (w:=W) (hw 0 (.inl h0))).trans hgl
  ·rw [if_neg e] at h;cases h
end Go.Proofs.YtjcmlflljibikaaGreatDoor.Cal
