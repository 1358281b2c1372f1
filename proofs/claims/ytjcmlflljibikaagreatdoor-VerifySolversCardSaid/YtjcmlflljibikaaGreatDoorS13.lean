/- Own texts, merged. -/
import Derived.Test.YtjcmlflljibikaaGreatDoorS12
set_option linter.unusedVariables false
set_option linter.unusedSimpArgs false
open Nat (reduceAdd reduceSub reduceMul reduceEqDiff reduceLeDiff reduceLT)
namespace Go.Proofs.YtjcmlflljibikaaGreatDoor.Cal
open Go
def IterX (P:Program) (gf:Nat) {τ:Type} (I X:τ→Prop) (ql qy:τ→List Int) (hd:τ→Int) (go:τ→Prop) (nx:τ→τ→Prop) (st fin:τ→Prop):Prop :=
 ∀ (A:Bool→τ→SemA)
  (hY:∀ t,I t→go t→Zoe P [.int .i64 (hd t)] [(1,some (.box (.own 2))),(2,some (.ints (qy t))),(3,some (.sem [0,1] (A true t)))] 4
   (fun g=>∃ b t',(b=true→I t'∧nx t t')∧(b=false→X t')∧g=⟨5,.bool b,[(1,some (.box (.own 4))),(4,some (.ints (ql t'))),(3,some (.sem [0,1] (A b t')))]⟩))
  (t0:τ) (h0:I t0) (hi0:st t0),
  FG P gf [.yld 0,.own 1] [(1,some (.box (.own 2))),(2,some (.box (.own 3))),(3,some (.ints (ql t0))),(4,some (.sem [0,2] (A true t0)))] 5
   (fun g=>∃ b t',(b=true→I t'∧fin t')∧(b=false→X t')∧g=⟨6,resV [],[(1,some (.box (.own 2))),(2,some (.box (.own 5))),(5,some (.ints (ql t'))),(4,some (.sem [0,2] (A b t')))]⟩)
section
variable {P:Program} {ro:Option Nat} {N κ:Nat} {tb:Nat→Option TI}
def roundX (κ:Nat) {τ:Type} (I X:τ→Prop) (ql:τ→List Int) (nx:τ→τ→Prop) (lv:Lv) (S:τ→List (Nat × Option Blk)) (kq M:Nat) (t:τ) (e:Exit) (s:St):Prop :=
 ∃ (cs:CS) (t':τ) (ρ:List (Nat × Nat)),s=cs.st∧LeC κ cs ρ ⟨M+1,[],Zcr kq M (ql t') (S t'),[]⟩∧((e=.normal∧I t'∧nx t t')∨(e=lv.e∧X t'))
theorem round_yieldsX {τ:Type} {I X:τ→Prop} {ql qy:τ→List Int} {hd:τ→Int} {go:τ→Prop} {nx:τ→τ→Prop} {lv:Lv} {S:τ→List (Nat × Option Blk)} {kq M m p fn lp D:Nat} {env:List (Nat × AV)} {assign body:Code} {w:World} {Z:Nat→Prop} {ν:Nat→Value} {a:Act} {rc:Loop}
  (hrc:rc={ state:=.ready,pending:=none,fn,tmps:=a.tmps,params := #[p],assign,body,defers:=D }) (hp:p < N) (hsz:a.tmps.size=N) (hkq:kq < m) (hmM:m≤M) (hlD:lp≠D)
  (henv:∀ s,men (ltK m) (lke env s)=true∧R Z w (lke env s) ν true [a.tmps.getD s undef])
  (hS:∀ t k b,I t∨X t→lkr (S t) k=some b→k < M∧k≠kq∧menB (ltK M) b)
  (round:∀ t,I t→go t→awp P (some lp) N m assign (CS.st ⟨M+1,(p,.int .i64 (hd t)) :: env,Zcr kq M (qy t) (S t),[]⟩) (fun e s=>e=.normal∧awp P (some lp) N m body s (roundX m I X ql nx lv S kq M t)))
  (t:τ) (ht:I t) (hi:go t) :
  Zoe P [.int .i64 (hd t)] [(1,some (.box (.own 2))),(2,some (.ints (qy t))),(3,some (.sem [0,1] (ASem w Z ν m lp D (Zc4 rc lv true) (ν kq) (S t))))] 4
   (fun g=>∃ b t',(b=true→I t'∧nx t t')∧(b=false→X t')∧g=⟨5,.bool b,[(1,some (.box (.own 4))),(4,some (.ints (ql t'))),(3,some (.sem [0,1] (ASem w Z ν m lp D (Zc4 rc lv b) (ν kq) (S t'))))]⟩):=by
 intro n K1 Z1 ν1 w1 vals l hone hvals hG hzk hkl hl
 obtain ⟨F1,hF1⟩:=hG
 obtain ⟨_,_,q1,q2,q3⟩:=hF1 1 (.box (.own 2)) rfl
 obtain ⟨_,_,i1,i2,i3⟩:=hF1 2 (.ints (qy t)) rfl
 obtain ⟨_,_,s1,s2,s3⟩:=hF1 3 (.sem [0,1] (ASem w Z ν m lp D (Zc4 rc lv true) (ν kq) (S t))) rfl
 obtain ⟨a1,a2,a3,a4,a5,a6,ν',G,a7,a8,a9⟩:=ASem_of s1
 have e0:ν1 0=.map (some lp):=by injection a1
 have e1:ν1 1=ν kq:=by injection a1 with _ h;injection h
 obtain rfl:l=lp:=by rw [hl] at e0;injection e0 with h;injection h
 obtain ⟨v,vs,hvv,r1,r2⟩:=hvals
 have r1:=one1 r1
 have r2:vs=[]:=r2
 subst r1 r2
 have hvals2:vals = #[.int .i64 (hd t)]:=by rw [←Array.toList_inj,hvv]
 subst hrc
 have a5:w1.heap[l]? = some (.loop { state:=.ready,pending:=none,fn:=fn,tmps:=a.tmps,params := #[p],assign:=assign,body:=body,defers:=D }):=a5
 have hy:=run_yield (P:=P) (args:=vals) a5 (by rw [hvals2];rfl)
 have htm:∀ (T:Array Value) (v:Value),((#[p]:Array Tmp).zip #[v]).foldl (fun tmps (x:Tmp × Value)=>tmps.setIfInBounds x.1 x.2) T=T.setIfInBounds p v:=fun T v=>by simp
 refine ⟨_,_,_,_,hy,roundIn_of_wpIn trivial ?_⟩
 have htm2:=htm a.tmps (.int .i64 (hd t))
 rw [←hvals2] at htm2
 have hlz:¬ Z1 l:=fun h=>(s2 l a3).1 (hzk l h)
 have hDz:¬ Z1 D:=fun h=>(s2 D a4).1 (hzk D h)
 -- the round's own view
 have hgood:Good (fun b=>K1 b∨b=l∨b=D) Z1 N w1 (fun k=>if k=M then ν1 2 else ν' k) (CS.st ⟨M+1,(p,.int .i64 (hd t)) :: env,Zcr kq M (qy t) (S t),[]⟩) { tmps:=a.tmps.setIfInBounds p (.int .i64 (hd t)),defers:=[] }:=by
  have hνm:∀ k,ltK m k=true→(if k=M then ν1 2 else ν' k)=ν k:=fun k hk=>by
   rw [ltK,Nat.blt_eq] at hk
   rw [if_neg (by omega)];exact a8 k hk
  refine ⟨by simp [hsz],fun k=>?_,fun s=>?_,?_,fun b hb=>.inl (hzk b hb),fun b hb=>?_,rfl,fun k hk=>by cases hk⟩
  ·show (if k=M then _ else _:Value).oneCell'=true
   split
   ·exact hone 2
   ·exact a7 k
  ·show men (ltK (M+1)) (lke ((p,_) :: env) s)=true∧R Z1 w1 (lke ((p,_) :: env) s) _ true _
   rw [Ze7]
   by_cases hs:s=p
   ·subst hs
    simp only [if_true]
    refine ⟨rfl,?_⟩
    show [_]=[_]
    simp [Array.getD_eq_getD_getElem?,hsz,hp]
   ·simp only [if_neg hs]
    obtain ⟨g1,g2⟩:=henv s
    refine ⟨Zdt (fun k hk=>by simp only [ltK,Nat.blt_eq] at hk ⊢;omega) g1,?_⟩
    have:(a.tmps.setIfInBounds p (.int .i64 (hd t))).getD s undef=a.tmps.getD s undef:=by
     simp [Array.getD_eq_getD_getElem?,Array.getElem?_setIfInBounds,Ne.symm hs]
    show R Z1 w1 (lke env s) _ true [(a.tmps.setIfInBounds p (.int .i64 (hd t))).getD s undef]
    rw [this]
    exact R_nu hνm g1 (Zbc (fun y hy=>(a2 y hy).1) (fun y hy=>(a2 y hy).2) g2)
  ·refine ⟨fun k=>if k=kq then F1 1 else if k=M then F1 2 else G k,fun k b hk=>?_⟩
   have hcase:∀ {k b},lkr (Zcr kq M (qy t) (S t)) k=some b→(k=kq∧b=.box (.own M))∨(k=M∧k≠kq∧b=.ints (qy t))∨(k≠kq∧k≠M∧lkr (S t) k=some b):=by
    intro k b hk
    unfold Zcr at hk
    rw [Zai] at hk
    by_cases h1:k=kq
    ·rw [if_pos h1] at hk;exact .inl ⟨h1,(Option.some.inj hk).symm⟩
    ·rw [if_neg h1,Zai] at hk
     by_cases h2:k=M
     ·rw [if_pos h2] at hk;exact .inr (.inl ⟨h2,h1,(Option.some.inj hk).symm⟩)
     ·rw [if_neg h2] at hk;exact .inr (.inr ⟨h1,h2,hk⟩)
   have hkM:∀ k b,k≠M→lkr (S t) k=some b→sat Z1 w1 (fun k=>if k=M then ν1 2 else ν' k) (ν' k) (G k) b∧menB (ltK (M+1)) b:=fun k b hkM hk=>by
    obtain ⟨b1,b2,b3⟩:=hS t k b (.inl ht) hk
    exact ⟨Zet (μ:=ltK M) (fun j hj=>if_neg (by rw [ltK,Nat.blt_eq] at hj;omega)) b3 (a9 k b hk).1,Zdo (fun j hj=>by simp only [ltK,Nat.blt_eq] at hj ⊢;omega) b3⟩
   have hMq:M≠kq:=by omega
   have hlt:∀ j,j < M+1→ltK (M+1) j=true:=fun j hj=>by rw [ltK,Nat.blt_eq];exact hj
   -- which footprint
   have hkind:∀ {k b},lkr (Zcr kq M (qy t) (S t)) k=some b→∃ i,(i=1∨i=2∨i=3)∧(∀ x,(if k=kq then F1 1 else if k=M then F1 2 else G k) x→F1 i x∧x≠l∧x≠D)∧(i=1↔k=kq)∧(i=2↔k=M):=by
    intro k b hk
    rcases hcase hk with ⟨rfl,rfl⟩|⟨rfl,h1,rfl⟩|⟨h1,h2,h3⟩
    ·refine ⟨1,.inl rfl,fun x hx=>?_,by simp,by omega⟩
     rw [if_pos rfl] at hx
     exact ⟨hx,fun e=>q3 3 _ (by omega) rfl x hx (e▸a3),fun e=>q3 3 _ (by omega) rfl x hx (e▸a4)⟩
    ·refine ⟨2,.inr (.inl rfl),fun x hx=>?_,by omega,by simp⟩
     rw [if_neg h1,if_pos rfl] at hx
     exact ⟨hx,fun e=>i3 3 _ (by omega) rfl x hx (e▸a3),fun e=>i3 3 _ (by omega) rfl x hx (e▸a4)⟩
    ·refine ⟨3,.inr (.inr rfl),fun x hx=>?_,by omega,by omega⟩
     rw [if_neg h1,if_neg h2] at hx
     exact (a9 k b h3).2.1 x hx
   have hFK:∀ {i x},(i=1∨i=2∨i=3)→F1 i x→¬ K1 x∧x < w1.heap.size:=by
    rintro i x (rfl|rfl|rfl) h
    ·exact q2 x h
    ·exact i2 x h
    ·exact s2 x h
   have hFF:∀ {i j x},(i=1∨i=2∨i=3)→(j=1∨j=2∨j=3)→i≠j→F1 i x→¬ F1 j x:=by
    rintro i j x (rfl|rfl|rfl) hj hne h
    ·rcases hj with rfl|rfl|rfl
     ·exact absurd rfl hne
     ·exact q3 2 _ (by omega) rfl x h
     ·exact q3 3 _ (by omega) rfl x h
    ·rcases hj with rfl|rfl|rfl
     ·exact i3 1 _ (by omega) rfl x h
     ·exact absurd rfl hne
     ·exact i3 3 _ (by omega) rfl x h
    ·rcases hj with rfl|rfl|rfl
     ·exact s3 1 _ (by omega) rfl x h
     ·exact s3 2 _ (by omega) rfl x h
     ·exact absurd rfl hne
   obtain ⟨i,hi1,hi2,hi3,hi4⟩:=hkind hk
   refine ⟨?_,?_,?_,fun x hx=>?_,fun k' b' hne hk' x hx=>?_⟩
   ·rcases hcase hk with ⟨rfl,rfl⟩|⟨rfl,h1,rfl⟩|⟨h1,h2,h3⟩
    ·exact hlt _ (by omega)
    ·exact hlt _ (by omega)
    ·exact hlt _ (by have:=(hS t k b (.inl ht) h3).1;omega)
   ·rcases hcase hk with ⟨rfl,rfl⟩|⟨rfl,h1,rfl⟩|⟨h1,h2,h3⟩
    ·exact hlt _ (by omega)
    ·exact trivial
    ·exact (hkM k b h2 h3).2
   ·dsimp only
    rcases hcase hk with ⟨rfl,rfl⟩|⟨rfl,h1,rfl⟩|⟨h1,h2,h3⟩
    ·rw [if_pos rfl,if_neg (by omega:¬ k=M)]
     obtain ⟨b,cells,T,t1,t2,t3,t4⟩:=q1
     refine ⟨b,cells,T,?_,t2,?_,t4⟩
     ·rw [a8 k hkq,←e1];exact t1
     ·show cells.toList=[(if M=M then ν1 2 else ν' M)]
      rw [if_pos rfl];exact t3
    ·rw [if_neg h1,if_pos rfl,if_pos rfl];exact i1
    ·rw [if_neg h1,if_neg h2,if_neg h2];exact (hkM k b h2 h3).1
   ·obtain ⟨h1,h2,h3⟩:=hi2 x hx
    obtain ⟨h4,h5⟩:=hFK hi1 h1
    refine ⟨?_,h5⟩
    rintro (h|h|h)
    ·exact h4 h
    ·exact h2 h
    ·exact h3 h
   ·obtain ⟨i',hi1',hi2',hi3',hi4'⟩:=hkind hk'
    intro hx'
    dsimp only at hx hx'
    by_cases hii:i=i'
    ·subst hii
     -- both from the rest
     have hk1:k≠kq:=fun e=>by
      have h1:=hi3.2 e
      exact hne (e.trans (hi3'.1 h1).symm)
     have hk2:k≠M:=fun e=>by
      have h1:=hi4.2 e
      exact hne (e.trans (hi4'.1 h1).symm)
     have hk1':k'≠kq:=fun e=>hk1 (hi3.1 (hi3'.2 e))
     have hk2':k'≠M:=fun e=>hk2 (hi4.1 (hi4'.2 e))
     rw [if_neg hk1,if_neg hk2] at hx
     rw [if_neg hk1',if_neg hk2'] at hx'
     rcases hcase hk with ⟨h,_⟩|⟨h,_⟩|⟨_,_,h3⟩
     ·exact hk1 h
     ·exact hk2 h
     rcases hcase hk' with ⟨h,_⟩|⟨h,_⟩|⟨_,_,h3'⟩
     ·exact hk1' h
     ·exact hk2' h
     exact (a9 k b h3).2.2 k' b' hne h3' x hx hx'
    ·exact hFF hi1 hi1' hii (hi2 x hx).1 (hi2' x hx').1
  ·rcases hb with h|rfl|rfl
   ·exact hkl b h
   ·exact (Array.getElem?_eq_some_iff.1 a5).1
   ·exact (Array.getElem?_eq_some_iff.1 a6).1
 have hasg:=round t ht hi n _ Z1 _ w1 _ hgood
 have hasg2:assign.wpIn ((FF none).inRound l) n P _ { tmps:=a.tmps.setIfInBounds p (.int .i64 (hd t)),defers:=[] } w1:=hasg
 rw [←htm2] at hasg2
 refine wpIn_mono hasg2 ?_
 rintro e a2' w2 ⟨Z2,ν2,σ2,st2,nu2,good2,rfl,hbody⟩
 -- the round begins
 have hl2:w2.heap[l]? = _:=(st2.ext.block l (.inr (.inl rfl))).trans a5
 have hZl:∀ {Zx:Nat→Prop} {wx:World},Step (fun b=>K1 b∨b=l∨b=D) Z1 w1 Zx wx→¬ Zx l∧¬ Zx D:=fun h =>
  ⟨fun hz=>(h.new l hz).elim hlz fun h=>h (.inr (.inl rfl)),fun hz=>(h.new D hz).elim hDz fun h=>h (.inr (.inr rfl))⟩
 refine ⟨_,run_beginRound hl2 rfl,?_⟩
 have good3:=good2.put (r:=l) (o:=.loop { state:=.busy,pending:=none,fn:=fn,tmps:=a.tmps,params := #[p],assign:=assign,body:=body,defers:=D }) (.inl (.inr (.inl rfl))) (hZl st2).1
 have hb:=hbody n _ _ _ _ _ good3
 refine wpIn_mono (show body.wpIn ((FF none).inRound l) n P _ a2' _ from hb) ?_
 rintro e a3' w3 ⟨Z3,ν3,σ3,st3,nu3,good4,cs,t',ρ,rfl,hle,hfate⟩
 have hKl:∀ b,(K1 b∨b=l∨b=D)→un (fun b=>K1 b∨b=l∨b=D) Z2 b:=fun b h=>.inl h
 have hl3:w3.heap[l]? = some (.loop { state:=.busy,pending:=none,fn:=fn,tmps:=a.tmps,params := #[p],assign:=assign,body:=body,defers:=D }) :=
  (st3.ext.block l (hKl l (.inr (.inl rfl)))).trans (World.putObj_heap_same (Array.getElem?_eq_some_iff.1 hl2).1)
 have hD3:w3.heap[D]? = some (.deferred (some [])) :=
  (st3.ext.block D (hKl D (.inr (.inr rfl)))).trans ((World.putObj_heap_other (Ne.symm hlD)).trans ((st2.ext.block D (.inr (.inr rfl))).trans a6))
 -- which end
 obtain ⟨bb,hbb⟩:∃ bb:Bool,(bb=true→e=.normal∧I t'∧nx t t')∧(bb=false→e=lv.e∧X t'):=by
  rcases hfate with h|h
  ·exact ⟨true,(fun _=>h),fun h=>by cases h⟩
  ·exact ⟨false,(fun h=>by cases h),fun _=>h⟩
 have hIX:I t'∨X t':=by
  rcases hfate with h|h
  ·exact .inl h.2.1
  ·exact .inr h.2
 suffices hres:∀ (o:Loop),o=Zc4 { state:=.ready,pending:=none,fn:=fn,tmps:=a.tmps,params := #[p],assign:=assign,body:=body,defers:=D } lv bb →
   ∃ (y:Value) (Z':Nat→Prop) (νr:Nat→Value) (g:GR),Ending.returned (Value.bool bb)=.returned y∧Step K1 Z1 w1 Z' (w3.putObj l (.loop o))∧(∀ k,(νr k).oneCell'=true)∧(∀ k,k < 4→νr k=ν1 k)∧R Z' (w3.putObj l (.loop o)) g.val νr true [y]∧men (ltK g.m) g.val=true∧GoodRs (un K1 Z') Z' (w3.putObj l (.loop o)) νr (ltK g.m) (lkr g.rs)∧(∀ b,Z' b→b < (w3.putObj l (.loop o)).heap.size) ∧
    (∃ b t'',(b=true→I t''∧nx t t'')∧(b=false→X t'')∧g=⟨5,.bool b,[(1,some (.box (.own 4))),(4,some (.ints (ql t''))),(3,some (.sem [0,1] (ASem w Z ν m l D (Zc4 { state:=.ready,pending:=none,fn:=fn,tmps:=a.tmps,params := #[p],assign:=assign,body:=body,defers:=D } lv b) (ν kq) (S t''))))]⟩)∧4≤g.m by
  cases bb with
  |true =>
   obtain ⟨rfl,hI,hN⟩:=hbb.1 rfl
   exact ⟨_,_,run_endRound none hl3,hres _ rfl⟩
  |false =>
   obtain ⟨rfl,hX⟩:=hbb.2 rfl
   cases lv with
   |ret=>exact ⟨_,_,run_endRound (some .ret) hl3,hres _ rfl⟩
   |exit id=>exact ⟨_,_,run_endRound (some (.exit id)) hl3,hres _ rfl⟩
 intro o ho
 have hle2:=Good.le good4 (Zms ρ hle.chk hle.env hle.rs)
 obtain ⟨H,hH⟩:=hle2.rs
 have hid:=(Zms ρ hle.chk hle.env hle.rs).id
 -- the step from the round's begin to its end
 have hK1:∀ b,K1 b→b≠l∧b≠D:=fun b hb=>⟨fun e=>(s2 l a3).1 (e▸hb),fun e=>(s2 D a4).1 (e▸hb)⟩
 have hstep:Step K1 Z1 w1 Z3 (w3.putObj l (.loop o)):=by
  refine ⟨⟨st3.ext.os.trans st2.ext.os,st3.ext.tape.trans st2.ext.tape,st3.ext.output.trans st2.ext.output,?_,fun b hb=>?_⟩,fun b hb=>st3.le b (st2.le b hb),fun b hb=>?_⟩
  ·have h1:=st2.ext.size
   have h2:=st3.ext.size
   rw [World.putObj_size] at h2 ⊢
   omega
  ·exact (World.putObj_heap_other (hK1 b hb).1).trans ((st3.ext.block b (hKl b (.inl hb))).trans ((World.putObj_heap_other (hK1 b hb).1).trans (st2.ext.block b (.inl hb))))
  ·rcases st3.new b hb with h|h
   ·rcases st2.new b h with h|h
    ·exact .inl h
    ·exact .inr fun hk=>h (.inl hk)
   ·exact .inr fun hk=>h (.inl (.inl hk))
 have hz3:¬ Z3 l∧¬ Z3 D:=by
  refine ⟨fun h=>?_,fun h=>?_⟩
  ·rcases st3.new l h with h|h
   ·exact (hZl st2).1 h
   ·exact h (hKl l (.inr (.inl rfl)))
  ·rcases st3.new D h with h|h
   ·exact (hZl st2).2 h
   ·exact h (hKl D (.inr (.inr rfl)))
 have n5:∀ k,k < m→ν3 (rhoL ρ k)=ν k:=fun k hk=>by
  rw [hid k hk,nu3 k hk,nu2 k hk]
  show (if k=M then _ else _:Value)=_
  rw [if_neg (by omega),a8 k hk]
 have lq:lkr (Zcr kq M (ql t') (S t')) kq=some (.box (.own M)):=by unfold Zcr;rw [Zai,if_pos rfl]
 have lM:lkr (Zcr kq M (ql t') (S t')) M=some (.ints (ql t')):=by unfold Zcr;rw [Zai,if_neg (by omega),Zai,if_pos rfl]
 have lS:∀ k b,lkr (S t') k=some b→k≠kq∧k≠M∧lkr (Zcr kq M (ql t') (S t')) k=some b:=fun k b hk=>by
  obtain ⟨b1,b2,b3⟩:=hS t' k b hIX hk
  refine ⟨b2,by omega,?_⟩
  unfold Zcr;rw [Zai,if_neg b2,Zai,if_neg (by omega)];exact hk
 obtain ⟨_,_,u1,u2,u3⟩:=hH kq _ lq
 obtain ⟨_,_,v1,v2,v3⟩:=hH M _ lM
 have hout:∀ k b,lkr (Zcr kq M (ql t') (S t')) k=some b→∀ x,H k x→¬ un K1 Z3 x∧x < w3.heap.size∧x≠l∧x≠D:=fun k b hk x hx=>by
  obtain ⟨_,_,_,h2,_⟩:=hH k b hk
  obtain ⟨h3,h4⟩:=h2 x hx
  refine ⟨fun h=>h3 ?_,h4,fun e=>h3 ?_,fun e=>h3 ?_⟩
  ·rcases h with h|h
   ·exact .inl (hKl x (.inl h))
   ·exact .inr h
  ·exact .inl (hKl x (.inr (.inl e)))
  ·exact .inl (hKl x (.inr (.inr e)))
 have hput:∀ x,x≠l→(w3.putObj l (.loop o)).heap[x]? = w3.heap[x]?:=fun x hx=>World.putObj_heap_other hx
 have hZput:∀ x,Z3 x→(w3.putObj l (.loop o)).heap[x]? = w3.heap[x]?:=fun x hx=>hput x (fun e=>hz3.1 (e▸hx))
 have hlt3:l < w3.heap.size:=(Array.getElem?_eq_some_iff.1 hl3).1
 have hDt3:D < w3.heap.size:=(Array.getElem?_eq_some_iff.1 hD3).1
 refine ⟨.bool bb,Z3,fun k=>if k < 4 then ν1 k else ν3 (rhoL ρ M),⟨5,.bool bb,[(1,some (.box (.own 4))),(4,some (.ints (ql t'))),(3,some (.sem [0,1] (ASem w Z ν m l D (Zc4 _ lv bb) (ν kq) (S t'))))]⟩,rfl,hstep,fun k=>?_,fun k hk=>if_pos hk,rfl,rfl,?_,fun b hb=>?_,⟨bb,t',fun h=>(hbb.1 h).2,fun h=>(hbb.2 h).2,rfl⟩,by show 4≤5;omega⟩
 ·dsimp only
  split
  ·exact hone k
  ·exact hle2.one M
 ·refine ⟨fun k=>if k=1 then H kq else if k=4 then H M else fun x=>x=l∨x=D∨∃ k b,lkr (S t') k=some b∧H k x,fun k b hk=>?_⟩
  have hc:∀ {k b},lkr [(1,some (Blk.box (.own 4))),(4,some (.ints (ql t'))),(3,some (.sem [0,1] (ASem w Z ν m l D (Zc4 { state:=.ready,pending:=none,fn:=fn,tmps:=a.tmps,params := #[p],assign:=assign,body:=body,defers:=D } lv bb) (ν kq) (S t'))))] k=some b →
    (k=1∧b=.box (.own 4))∨(k=4∧b=.ints (ql t'))∨(k=3∧b=.sem [0,1] (ASem w Z ν m l D (Zc4 { state:=.ready,pending:=none,fn:=fn,tmps:=a.tmps,params := #[p],assign:=assign,body:=body,defers:=D } lv bb) (ν kq) (S t'))):=by
   intro k b hk
   rw [Zai] at hk
   by_cases h1:k=1
   ·rw [if_pos h1] at hk;exact .inl ⟨h1,(Option.some.inj hk).symm⟩
   ·rw [if_neg h1,Zai] at hk
    by_cases h2:k=4
    ·rw [if_pos h2] at hk;exact .inr (.inl ⟨h2,(Option.some.inj hk).symm⟩)
    ·rw [if_neg h2,Zai] at hk
     by_cases h3:k=3
     ·rw [if_pos h3] at hk;exact .inr (.inr ⟨h3,(Option.some.inj hk).symm⟩)
     ·rw [if_neg h3] at hk;cases hk
  -- every footprint lies under one of the round's keys, or is one of the two blocks
  have hfoot:∀ {k b},(k=1∧b=Blk.box (.own 4))∨(k=4∧b=.ints (ql t'))∨(k=3∧b=.sem [0,1] (ASem w Z ν m l D (Zc4 { state:=.ready,pending:=none,fn:=fn,tmps:=a.tmps,params := #[p],assign:=assign,body:=body,defers:=D } lv bb) (ν kq) (S t'))) →
    ∀ x,(if k=1 then H kq else if k=4 then H M else fun x=>x=l∨x=D∨∃ k b,lkr (S t') k=some b∧H k x) x →
     (k=1∧H kq x)∨(k=4∧H M x)∨(k=3∧(x=l∨x=D∨∃ k b,lkr (S t') k=some b∧H k x)):=by
   intro k b hk x hx
   rcases hk with ⟨rfl,_⟩|⟨rfl,_⟩|⟨rfl,_⟩
   ·exact .inl ⟨rfl,hx⟩
   ·exact .inr (.inl ⟨rfl,hx⟩)
   ·exact .inr (.inr ⟨rfl,hx⟩)
  have hlD1:(¬ un K1 Z3 l∧l < w3.heap.size)∧(¬ un K1 Z3 D∧D < w3.heap.size):=by
   refine ⟨⟨?_,hlt3⟩,⟨?_,hDt3⟩⟩
   ·rintro (h|h)
    ·exact (hK1 l h).1 rfl
    ·exact hz3.1 h
   ·rintro (h|h)
    ·exact (hK1 D h).2 rfl
    ·exact hz3.2 h
  have hk:=hc hk
  refine ⟨?_,?_,?_,fun x hx=>?_,fun k' b' hne hk' x hx hx'=>?_⟩
  ·rcases hk with ⟨rfl,_⟩|⟨rfl,_⟩|⟨rfl,_⟩<;>rfl
  ·rcases hk with ⟨_,rfl⟩|⟨_,rfl⟩|⟨_,rfl⟩
   ·rfl
   ·exact trivial
   ·intro j hj
    simp only [List.mem_cons,List.not_mem_nil,or_false] at hj
    rcases hj with rfl|rfl<;>rfl
  ·rcases hk with ⟨rfl,rfl⟩|⟨rfl,rfl⟩|⟨rfl,rfl⟩
   ·obtain ⟨b,cells,T,t1,t2,t3,t4⟩:=u1
    refine ⟨b,cells,T,?_,?_,?_,t4⟩
    ·show ν1 1=_
     rw [e1,←n5 kq hkq];exact t1
    ·exact (hput b (hout kq _ lq b ((t4 b).2 rfl)).2.2.1).trans t2
    ·exact t3
   ·exact Zbl (fun _ h=>h) hZput (fun x hx=>hput x (hout M _ lM x hx).2.2.1) v1
   ·refine sat_ASem (νc:=fun k=>if k < 4 then ν1 k else ν3 (rhoL ρ M)) ⟨?_,fun y hy=>⟨?_,?_⟩,.inl rfl,.inr (.inl rfl),(by rw [←ho];exact World.putObj_heap_same hlt3),(hput D (Ne.symm hlD)).trans hD3,fun k=>ν3 (rhoL ρ k),H,hle2.one,n5,fun k b hk=>?_⟩
    ·show [ν1 0,ν1 1]=_
     exact a1
    ·exact hstep.le y (a2 y hy).1
    ·exact (hstep.ext.block y (hzk y (a2 y hy).1)).trans (a2 y hy).2
    ·obtain ⟨c1,c2,c3⟩:=lS k b hk
     obtain ⟨_,_,g1,g2,g3⟩:=hH k b c3
     refine ⟨Zbl (fun _ h=>h) hZput (fun x hx=>hput x (hout k b c3 x hx).2.2.1) g1,fun x hx=>⟨.inr (.inr ⟨k,b,hk,hx⟩),(hout k b c3 x hx).2.2⟩,fun k' b' hne hk'=>g3 k' b' hne (lS k' b' hk').2.2⟩
  ·rw [World.putObj_size]
   rcases hfoot hk x hx with ⟨_,h⟩|⟨_,h⟩|⟨_,h|h|⟨k2,b2,h2,h⟩⟩
   ·exact ⟨(hout kq _ lq x h).1,(hout kq _ lq x h).2.1⟩
   ·exact ⟨(hout M _ lM x h).1,(hout M _ lM x h).2.1⟩
   ·rw [h];exact hlD1.1
   ·rw [h];exact hlD1.2
   ·exact ⟨(hout k2 b2 (lS k2 b2 h2).2.2 x h).1,(hout k2 b2 (lS k2 b2 h2).2.2 x h).2.1⟩
  ·have hk':=hc hk'
   have d1:∀ x,H kq x→¬ H M x:=u3 M _ (by omega) lM
   have d2:∀ x k b,H kq x→lkr (S t') k=some b→¬ H k x:=fun x k b h hk=>u3 k b (Ne.symm (lS k b hk).1) (lS k b hk).2.2 x h
   have d3:∀ x k b,H M x→lkr (S t') k=some b→¬ H k x:=fun x k b h hk=>v3 k b (Ne.symm (lS k b hk).2.1) (lS k b hk).2.2 x h
   rcases hfoot hk x hx with ⟨r1,h⟩|⟨r1,h⟩|⟨r1,h⟩<;>rcases hfoot hk' x hx' with ⟨r2,h'⟩|⟨r2,h'⟩|⟨r2,h'⟩
   ·exact hne (r1.trans r2.symm)
   ·exact d1 x h h'
   ·rcases h' with h'|h'|⟨k2,b2,h2,h'⟩
    ·exact (hout kq _ lq x h).2.2.1 h'
    ·exact (hout kq _ lq x h).2.2.2 h'
    ·exact d2 x k2 b2 h h2 h'
   ·exact d1 x h' h
   ·exact hne (r1.trans r2.symm)
   ·rcases h' with h'|h'|⟨k2,b2,h2,h'⟩
    ·exact (hout M _ lM x h).2.2.1 h'
    ·exact (hout M _ lM x h).2.2.2 h'
    ·exact d3 x k2 b2 h h2 h'
   ·rcases h with h|h|⟨k2,b2,h2,h⟩
    ·exact (hout kq _ lq x h').2.2.1 h
    ·exact (hout kq _ lq x h').2.2.2 h
    ·exact d2 x k2 b2 h' h2 h
   ·rcases h with h|h|⟨k2,b2,h2,h⟩
    ·exact (hout M _ lM x h').2.2.1 h
    ·exact (hout M _ lM x h').2.2.2 h
    ·exact d3 x k2 b2 h' h2 h
   ·exact hne (r1.trans r2.symm)
 ·rw [World.putObj_size]
  exact hle2.kl b (hle2.zk b hb)
theorem awp_rangeX {gOp:Operand} {p gf m M kb kq:Nat} {assign body:Code} {env:List (Nat × AV)} {Q:Exit→St→Prop} {τ:Type} (I X:τ→Prop) (ql qy:τ→List Int) (hd:τ→Int) (go:τ→Prop) (nx:τ→τ→Prop) (st fin:τ→Prop) (lv:Lv) (S:τ→List (Nat × Option Blk)) (t0:τ)
  (hIter:IterX P gf I X ql qy hd go nx st fin) (h0:I t0) (hi0:st t0)
  (hgo:opv (lke env) gOp=.fn gf (.cons (.own kb) .nil)) (hp:Nat.blt p N=true) (hkb:Nat.blt kb m=true) (hkq:Nat.blt kq m=true) (hbq:Nat.beq kb kq=false) (hmM:Nat.ble m M=true) (hκ:Nat.ble κ m=true) (hmen:menE m env=true)
  (hS:∀ t k b,I t∨X t→lkr (S t) k=some b→k < M∧k≠kq∧k≠kb∧menB (ltK M) b)
  (round:∀ lp t,I t→go t→awp P (some lp) N m assign (CS.st ⟨M+1,(p,.int .i64 (hd t)) :: env,Zcr kq M (qy t) (S t),[]⟩) (fun e s=>e=.normal∧awp P (some lp) N m body s (roundX m I X ql nx lv S kq M t)))
  (next:∀ t,I t→fin t→Q .normal (CS.st ⟨M+2,env,(M+1,some .dfr) :: Zcr kq M (ql t) (S t),[M+1]⟩))
  (left:∀ t,X t→Q lv.e (CS.st ⟨M+2,env,(M+1,some .dfr) :: Zcr kq M (ql t) (S t),[M+1]⟩)) :
  awp P none N κ (.rangeFunc gOp #[p] assign body) (CS.st ⟨M+1,env,(kb,some (.box (.own kq))) :: Zcr kq M (ql t0) (S t0),[]⟩) Q:=by
 rw [Nat.blt_eq] at hp hkb hkq
 have hmM:=Nat.le_of_ble_eq_true hmM
 have hκ:=Nat.le_of_ble_eq_true hκ
 have hbq:kb≠kq:=by rintro rfl;rw [Nat.beq_refl] at hbq;cases hbq
 intro n K Z ν w a hg
 refine wpIn_rangeFunc ?_
 intro fn _
 obtain ⟨rc,hrc⟩:∃ rc:Loop,rc={ state:=.ready,pending:=none,fn,tmps:=a.tmps,params := #[p],assign,body,defers:=w.heap.size }:=⟨_,rfl⟩
 obtain ⟨W1,hW1⟩:∃ W1,(w.alloc (.deferred (some []))).alloc (.loop rc)=W1:=⟨_,rfl⟩
 have hs1:W1.heap.size=w.heap.size+2:=by rw [←hW1,World.size_alloc,World.size_alloc]
 have hL1:W1.heap[w.heap.size+1]? = some (.loop rc):=by
  rw [←hW1];have:=World.alloc_heap_new (w.alloc (.deferred (some []))) (.loop rc);rwa [World.size_alloc] at this
 have hD1:W1.heap[w.heap.size]? = some (.deferred (some [])):=by
  rw [←hW1];exact (Zd9 _ _ _ (by rw [World.size_alloc];omega)).trans (World.alloc_heap_new w _)
 have hold:∀ b,b < w.heap.size→W1.heap[b]? = w.heap[b]?:=fun b hb=>by
  rw [←hW1];exact (Zd9 _ _ _ (by rw [World.size_alloc];omega)).trans (Zd9 _ _ _ hb)
 have hos:W1.os=w.os∧W1.tape=w.tape∧W1.output=w.output:=by rw [←hW1];exact ⟨rfl,rfl,rfl⟩
 have hev:=Zih hg gOp
 rw [show opv (CS.st ⟨M+1,env,(kb,some (.box (.own kq))) :: Zcr kq M (ql t0) (S t0),[]⟩).env gOp=_ from hgo] at hev
 obtain ⟨cv,ecv,rcv⟩:=hev
 have ecv:=one1 ecv
 obtain ⟨vb,vs,hcv,rb,rn⟩:=rcv
 have rb:=one1 rb
 have rn:vs=[]:=rn
 subst rb rn hcv
 have henv:∀ s,men (ltK m) (lke env s)=true∧R Z w (lke env s) ν true [a.tmps.getD s undef]:=fun s=>⟨Zk4 hmen s,(hg.env s).2⟩
 have hdef:a.defers=[]:=hg.ds
 have hFG:=hIter (fun b t=>ASem w Z ν m (w.heap.size+1) w.heap.size (Zc4 rc lv b) (ν kq) (S t))
  (fun t ht hi=>round_yieldsX hrc hp hg.size hkq hmM (by omega) henv (fun t k b ht hk=>⟨(hS t k b ht hk).1,(hS t k b ht hk).2.1,(hS t k b ht hk).2.2.2⟩) (fun t ht hi=>round _ t ht hi) t ht hi) t0 h0 hi0
 obtain ⟨⟨fn',hfn',hname,hbody⟩,hcall⟩:=hFG
 have eg:∀ args w,(callFunc gf args).run P w=.ok (.enter gf args) w:=by
  intro args w
  simp [callFunc,hfn',Sem.run_bind,Result.andThen,Sem.run,program]
  have hname' : ¬ fn'.name = "runtime.NumGoroutine" := by simpa using hname
  cases hb:fn'.body with
  |none=>rw [hb] at hbody;cases hbody
  |some c=>simp [hname',hb,Sem.run]
 obtain ⟨Ft,hF⟩:=id hg.rs
 have lb:lkr ((kb,some (.box (.own kq))) :: Zcr kq M (ql t0) (S t0)) kb=some (.box (.own kq)):=by rw [Zai,if_pos rfl]
 have lq:lkr ((kb,some (.box (.own kq))) :: Zcr kq M (ql t0) (S t0)) kq=some (.box (.own M)):=by rw [Zai,if_neg (Ne.symm hbq)];unfold Zcr;rw [Zai,if_pos rfl]
 have lM:lkr ((kb,some (.box (.own kq))) :: Zcr kq M (ql t0) (S t0)) M=some (.ints (ql t0)):=by rw [Zai,if_neg (by omega)];unfold Zcr;rw [Zai,if_neg (by omega),Zai,if_pos rfl]
 have lS:∀ k b,lkr (S t0) k=some b→k≠kb∧k≠kq∧k≠M∧lkr ((kb,some (.box (.own kq))) :: Zcr kq M (ql t0) (S t0)) k=some b:=fun k b hk=>by
  obtain ⟨b1,b2,b3,b4⟩:=hS t0 k b (.inl h0) hk
  refine ⟨b3,b2,by omega,?_⟩
  rw [Zai,if_neg b3];unfold Zcr;rw [Zai,if_neg b2,Zai,if_neg (by omega)];exact hk
 have hKz:∀ b,Z b→b < w.heap.size:=fun b hb=>hg.kl b (hg.zk b hb)
 have hsat:∀ k b,lkr ((kb,some (.box (.own kq))) :: Zcr kq M (ql t0) (S t0)) k=some b→sat Z W1 ν (ν k) (Ft k) b:=fun k b hk=>by
  obtain ⟨_,_,h3,h4,_⟩:=hF k b hk
  exact Zbl (fun _ h=>h) (fun x hx=>hold x (hKz x hx)) (fun x hx=>hold x (h4 x hx).2) h3
 have hcl:=hcall K Z (fun j=>if j=0 then .map (some (w.heap.size+1)) else if j=1 then ν kb else if j=2 then ν kq else if j=3 then ν M else .nilFunc) W1 #[.func (.yield (w.heap.size+1)) #[] #[],ν kb]
  (fun k=>by
   repeat' split
   all_goals first|rfl|exact hg.one _)
  ⟨_,_,rfl,⟨w.heap.size+1,rfl,rfl⟩,_,_,rfl,rfl,rfl⟩ rfl
  (by
   refine ⟨fun k=>if k=1 then Ft kb else if k=2 then Ft kq else if k=3 then Ft M else fun x=>x=w.heap.size+1∨x=w.heap.size∨∃ k b,lkr (S t0) k=some b∧Ft k x,fun k b hk=>?_⟩
   have hdis:∀ x,∀ k b,lkr ((kb,some (.box (.own kq))) :: Zcr kq M (ql t0) (S t0)) k=some b→Ft k x→¬ K x∧x < w.heap.size:=fun x k b hk hx=>(hF k b hk).2.2.2.1 x hx
   have hc:(k=1∧b=.box (.own 2))∨(k=2∧b=.box (.own 3))∨(k=3∧b=.ints (ql t0))∨(k=4∧b=.sem [0,2] (ASem w Z ν m (w.heap.size+1) w.heap.size (Zc4 rc lv true) (ν kq) (S t0))):=by
    exact cases4 hk
   have hfx:∀ {k b x},((k=1∧b=Blk.box (.own 2))∨(k=2∧b=.box (.own 3))∨(k=3∧b=.ints (ql t0))∨(k=4∧b=.sem [0,2] (ASem w Z ν m (w.heap.size+1) w.heap.size (Zc4 rc lv true) (ν kq) (S t0)))) →
     (if k=1 then Ft kb else if k=2 then Ft kq else if k=3 then Ft M else fun x=>x=w.heap.size+1∨x=w.heap.size∨∃ k b,lkr (S t0) k=some b∧Ft k x) x →
     ∃ k0,(k0=k)∧((k0=1∧Ft kb x)∨(k0=2∧Ft kq x)∨(k0=3∧Ft M x)∨(k0=4∧(x=w.heap.size+1∨x=w.heap.size∨∃ k b,lkr (S t0) k=some b∧Ft k x))):=by
    intro k b x hk hx
    rcases hk with ⟨rfl,_⟩|⟨rfl,_⟩|⟨rfl,_⟩|⟨rfl,_⟩
    ·exact ⟨1,rfl,.inl ⟨rfl,hx⟩⟩
    ·exact ⟨2,rfl,.inr (.inl ⟨rfl,hx⟩)⟩
    ·exact ⟨3,rfl,.inr (.inr (.inl ⟨rfl,hx⟩))⟩
    ·exact ⟨4,rfl,.inr (.inr (.inr ⟨rfl,hx⟩))⟩
   refine ⟨?_,?_,?_,fun x hx=>?_,fun k' b' hne hk' x hx hx'=>?_⟩
   ·rcases hc with ⟨rfl,_⟩|⟨rfl,_⟩|⟨rfl,_⟩|⟨rfl,_⟩<;>rfl
   ·rcases hc with ⟨_,rfl⟩|⟨_,rfl⟩|⟨_,rfl⟩|⟨_,rfl⟩
    ·rfl
    ·rfl
    ·exact trivial
    ·intro j hj
     simp only [List.mem_cons,List.not_mem_nil,or_false] at hj
     rcases hj with rfl|rfl<;>rfl
   ·rcases hc with ⟨rfl,rfl⟩|⟨rfl,rfl⟩|⟨rfl,rfl⟩|⟨rfl,rfl⟩
    ·obtain ⟨b,cells,T,t1,t2,t3,t4⟩:=hsat _ _ lb
     exact ⟨b,cells,T,t1,t2,t3,t4⟩
    ·obtain ⟨b,cells,T,t1,t2,t3,t4⟩:=hsat _ _ lq
     exact ⟨b,cells,T,t1,t2,t3,t4⟩
    ·exact hsat _ _ lM
    ·refine sat_ASem (νc:=fun j=>if j=0 then .map (some (w.heap.size+1)) else if j=1 then ν kb else if j=2 then ν kq else if j=3 then ν M else .nilFunc) ⟨rfl,fun y hy=>⟨hy,hold y (hKz y hy)⟩,.inl rfl,.inr (.inl rfl),hL1,hD1,ν,Ft,hg.one,fun _ _=>rfl,fun k b hk=>?_⟩
     obtain ⟨c1,c2,c3,c4⟩:=lS k b hk
     refine ⟨hsat k b c4,fun x hx=>⟨.inr (.inr ⟨k,b,hk,hx⟩),?_,?_⟩,fun k' b' hne hk'=>(hF k b c4).2.2.2.2 k' b' hne (lS k' b' hk').2.2.2⟩
     ·have:=(hdis x k b c4 hx).2;omega
     ·have:=(hdis x k b c4 hx).2;omega
   ·have hKs:∀ x,K x→x < w.heap.size:=hg.kl
    obtain ⟨k0,rfl,h⟩:=hfx hc hx
    rcases h with ⟨_,h⟩|⟨_,h⟩|⟨_,h⟩|⟨_,h|h|⟨k2,b2,h2,h⟩⟩
    ·exact ⟨(hdis x _ _ lb h).1,by have:=(hdis x _ _ lb h).2;omega⟩
    ·exact ⟨(hdis x _ _ lq h).1,by have:=(hdis x _ _ lq h).2;omega⟩
    ·exact ⟨(hdis x _ _ lM h).1,by have:=(hdis x _ _ lM h).2;omega⟩
    ·exact ⟨fun hk=>by have:=hKs x hk;omega,by omega⟩
    ·exact ⟨fun hk=>by have:=hKs x hk;omega,by omega⟩
    ·exact ⟨(hdis x _ _ (lS k2 b2 h2).2.2.2 h).1,by have:=(hdis x _ _ (lS k2 b2 h2).2.2.2 h).2;omega⟩
   ·obtain ⟨k0,rfl,h⟩:=hfx hc hx
    obtain ⟨k0',rfl,h'⟩:=hfx (cases4 hk') hx'
    -- where a footprint comes from
    have hsrc:∀ {i x},((i=1∧Ft kb x)∨(i=2∧Ft kq x)∨(i=3∧Ft M x)∨(i=4∧(x=w.heap.size+1∨x=w.heap.size∨∃ k b,lkr (S t0) k=some b∧Ft k x))) →
      (w.heap.size≤x∧i=4)∨∃ k b,lkr ((kb,some (.box (.own kq))) :: Zcr kq M (ql t0) (S t0)) k=some b∧Ft k x∧(i=1↔k=kb)∧(i=2↔k=kq)∧(i=3↔k=M):=by
     rintro i x (⟨rfl,h⟩|⟨rfl,h⟩|⟨rfl,h⟩|⟨rfl,h|h|⟨k2,b2,h2,h⟩⟩)
     ·exact .inr ⟨kb,_,lb,h,by simp,by omega,by omega⟩
     ·exact .inr ⟨kq,_,lq,h,by omega,by simp,by omega⟩
     ·exact .inr ⟨M,_,lM,h,by omega,by omega,by simp⟩
     ·exact .inl ⟨by omega,rfl⟩
     ·exact .inl ⟨by omega,rfl⟩
     ·obtain ⟨c1,c2,c3,c4⟩:=lS k2 b2 h2
      exact .inr ⟨k2,b2,c4,h,by omega,by omega,by omega⟩
    have hr1:k0=1∨k0=2∨k0=3∨k0=4:=by rcases h with ⟨h,_⟩|⟨h,_⟩|⟨h,_⟩|⟨h,_⟩<;>omega
    have hr2:k0'=1∨k0'=2∨k0'=3∨k0'=4:=by rcases h' with ⟨h,_⟩|⟨h,_⟩|⟨h,_⟩|⟨h,_⟩<;>omega
    rcases hsrc h with ⟨h1,h2⟩|⟨k1,b1,g1,g2,g3,g4,g5⟩<;>rcases hsrc h' with ⟨h1',h2'⟩|⟨k1',b1',g1',g2',g3',g4',g5'⟩
    ·omega
    ·have:=(hdis x _ _ g1' g2').2;omega
    ·have:=(hdis x _ _ g1 g2).2;omega
    ·refine (hF k1 b1 g1).2.2.2.2 k1' b1' (fun e=>?_) g1' x g2 g2'
     subst e
     omega)
  hg.zk (fun b hb=>by rw [hs1];have:=hg.kl b hb;omega)
 refine ⟨w.heap.size+1,[{ target:=.collected w.heap.size,args := #[] }],W1,{ target:=.fn (.func gf) [ν kb].toArray,args := #[.func (.yield (w.heap.size+1)) #[] #[]] },W1,gf,#[.func (.yield (w.heap.size+1)) #[] #[]]++[ν kb].toArray,W1,?_,?_,?_,?_,(fun h=>by cases h),?_⟩
 ·rw [←hW1,hrc];exact run_enterLoop_outer _ _ _ _ _
 ·simp only [resolve,ecv]
  simp [go_sem]
 ·intro f' _;exact trivial
 ·simp [invoke,go_sem,eg]
 refine CallsIn.mono (Zeo hcl) ?_
 rintro e W' ⟨y,Z',ν',v,μ',rs',rfl,hst,h1',hν,_,hr',hm',⟨Fn,hFn⟩,hz,g,⟨bb,t',hbt,hbf,rfl⟩,rfl,rfl,_,rfl⟩
 obtain ⟨_,_,q1,q2,q3⟩:=hFn 2 (.box (.own 5)) rfl
 obtain ⟨_,_,i1,i2,i3⟩:=hFn 5 (.ints (ql t')) rfl
 obtain ⟨_,_,s1,s2,s3⟩:=hFn 4 (.sem [0,2] (ASem w Z ν m (w.heap.size+1) w.heap.size (Zc4 rc lv bb) (ν kq) (S t'))) rfl
 obtain ⟨a1,a2,a3,a4,a5,a6,νA,G,a7,a8,a9⟩:=ASem_of s1
 have e2:ν' 2=ν kq:=hν 2 (by omega)
 have hDz:¬ Z' w.heap.size:=fun h=>(s2 _ a4).1 (.inr h)
 have hlz:¬ Z' (w.heap.size+1):=fun h=>(s2 _ a3).1 (.inr h)
 have hput:∀ x,x≠w.heap.size+1→(W'.putObj (w.heap.size+1) (.loop { Zc4 rc lv bb with state:=.exhausted })).heap[x]? = W'.heap[x]?:=fun x hx=>World.putObj_heap_other hx
 have hZput:∀ x,Z' x→(W'.putObj (w.heap.size+1) (.loop { Zc4 rc lv bb with state:=.exhausted })).heap[x]? = W'.heap[x]?:=fun x hx=>hput x (fun e=>hlz (e▸hx))
 have hIX:I t'∨X t':=by
  cases bb with
  |true=>exact .inl (hbt rfl).1
  |false=>exact .inr (hbf rfl)
 have hend:=run_endLoop (P:=P) a5 (by
  cases bb with
  |true=>show rc.state≠_;rw [hrc];intro h;cases h
  |false=>intro h;cases h)
 have hstep:Step K Z w Z' (W'.putObj (w.heap.size+1) (.loop { Zc4 rc lv bb with state:=.exhausted })):=by
  refine ⟨⟨hst.ext.os.trans hos.1,hst.ext.tape.trans hos.2.1,hst.ext.output.trans hos.2.2,?_,fun b hb=>?_⟩,hst.le,hst.new⟩
  ·have:=hst.ext.size;rw [World.putObj_size];omega
  ·have:=hg.kl b hb
   exact (hput b (by omega)).trans ((hst.ext.block b hb).trans (hold b this))
 have hK':∀ x,(∃ i b,lkr [(1,some (Blk.box (.own 2))),(2,some (.box (.own 5))),(5,some (.ints (ql t'))),(4,some (.sem [0,2] (ASem w Z ν m (w.heap.size+1) w.heap.size (Zc4 rc lv bb) (ν kq) (S t'))))] i=some b∧Fn i x)→¬ un K Z' x∧x < W'.heap.size:=fun x ⟨i,b,h1,h2⟩=>(hFn i b h1).2.2.2.1 x h2
 have hkey:∀ e,Q e (CS.st ⟨M+2,env,(M+1,some .dfr) :: Zcr kq M (ql t') (S t'),[M+1]⟩)→Post N κ K Z w ν Q e { a with defers:=[{ target:=.collected w.heap.size,args := #[] }]++a.defers } (W'.putObj (w.heap.size+1) (.loop { Zc4 rc lv bb with state:=.exhausted })):=by
  intro e hq
  refine ⟨Z',fun k=>if k=M+1 then Zgi [w.heap.size] else if k=M then ν' 5 else νA k,CS.st ⟨M+2,env,(M+1,some .dfr) :: Zcr kq M (ql t') (S t'),[M+1]⟩,hstep,fun k hk=>?_,?_,hq⟩
  ·dsimp only
   rw [if_neg (by omega),if_neg (by omega)];exact a8 k (by omega)
  have hνm:∀ k,ltK m k=true→(if k=M+1 then Zgi [w.heap.size] else if k=M then ν' 5 else νA k)=ν k:=fun k hk=>by
   rw [ltK,Nat.blt_eq] at hk
   rw [if_neg (by omega),if_neg (by omega)];exact a8 k hk
  refine ⟨hg.size,fun k=>?_,fun s=>?_,?_,fun b hb=>.inr hb,fun b hb=>?_,?_,fun k hk=>?_⟩
  ·show (if k=M+1 then _ else if k=M then _ else _:Value).oneCell'=true
   split
   ·rfl
   ·split
    ·exact h1' 5
    ·exact a7 k
  ·obtain ⟨g1,g2⟩:=henv s
   refine ⟨Zdt (fun k hk=>by simp only [CS.st,ltK,Nat.blt_eq] at hk ⊢;omega) g1,R_nu hνm g1 (Zbc hst.le (fun y hy=>?_) g2)⟩
   exact (hZput y (hst.le y hy)).trans ((hst.ext.block y (hg.zk y hy)).trans (hold y (hKz y hy)))
  · -- what it holds now
   have hc:∀ {k b},lkr ((M+1,some Blk.dfr) :: Zcr kq M (ql t') (S t')) k=some b→(k=M+1∧b=.dfr)∨(k=kq∧b=.box (.own M))∨(k=M∧b=.ints (ql t'))∨(k < M∧k≠kq∧lkr (S t') k=some b):=by
    intro k b hk
    rw [Zai] at hk
    by_cases h1:k=M+1
    ·rw [if_pos h1] at hk;exact .inl ⟨h1,(Option.some.inj hk).symm⟩
    ·rw [if_neg h1] at hk
     unfold Zcr at hk
     rw [Zai] at hk
     by_cases h2:k=kq
     ·rw [if_pos h2] at hk;exact .inr (.inl ⟨h2,(Option.some.inj hk).symm⟩)
     ·rw [if_neg h2,Zai] at hk
      by_cases h3:k=M
      ·rw [if_pos h3] at hk;exact .inr (.inr (.inl ⟨h3,(Option.some.inj hk).symm⟩))
      ·rw [if_neg h3] at hk
       have:=hS t' k b hIX hk
       exact .inr (.inr (.inr ⟨this.1,this.2.1,hk⟩))
   refine ⟨fun k=>if k=M+1 then fun x=>x=w.heap.size else if k=kq then Fn 2 else if k=M then Fn 5 else G k,fun k b hk=>?_⟩
   have hc1:=hc hk
   have hfx:∀ {k b x},((k=M+1∧b=Blk.dfr)∨(k=kq∧b=.box (.own M))∨(k=M∧b=.ints (ql t'))∨(k < M∧k≠kq∧lkr (S t') k=some b)) →
     (if k=M+1 then fun x=>x=w.heap.size else if k=kq then Fn 2 else if k=M then Fn 5 else G k) x →
     (k=M+1∧x=w.heap.size)∨(k=kq∧Fn 2 x)∨(k=M∧Fn 5 x)∨(k < M∧k≠kq∧G k x∧Fn 4 x∧x≠w.heap.size+1∧x≠w.heap.size):=by
    intro k b x hk hx
    rcases hk with ⟨rfl,_⟩|⟨rfl,_⟩|⟨rfl,_⟩|⟨h1,h2,h3⟩
    ·rw [if_pos rfl] at hx;exact .inl ⟨rfl,hx⟩
    ·rw [if_neg (by omega),if_pos rfl] at hx;exact .inr (.inl ⟨rfl,hx⟩)
    ·rw [if_neg (by omega),if_neg (by omega),if_pos rfl] at hx;exact .inr (.inr (.inl ⟨rfl,hx⟩))
    ·rw [if_neg (by omega),if_neg h2,if_neg (by omega)] at hx
     obtain ⟨g1,g2,g3⟩:=(a9 k b h3).2.1 x hx
     exact .inr (.inr (.inr ⟨h1,h2,hx,g1,g2,g3⟩))
   have n2:∀ x,Fn 2 x→x≠w.heap.size∧x≠w.heap.size+1:=fun x h=>⟨fun e=>q3 4 _ (by omega) rfl x h (e▸a4),fun e=>q3 4 _ (by omega) rfl x h (e▸a3)⟩
   have n5:∀ x,Fn 5 x→x≠w.heap.size∧x≠w.heap.size+1:=fun x h=>⟨fun e=>i3 4 _ (by omega) rfl x h (e▸a4),fun e=>i3 4 _ (by omega) rfl x h (e▸a3)⟩
   have d25:∀ x,Fn 2 x→¬ Fn 5 x:=fun x h=>q3 5 _ (by omega) rfl x h
   have d24:∀ x,Fn 2 x→¬ Fn 4 x:=fun x h=>q3 4 _ (by omega) rfl x h
   have d54:∀ x,Fn 5 x→¬ Fn 4 x:=fun x h=>i3 4 _ (by omega) rfl x h
   have hlt:∀ j,j < M+2→ltK (M+2) j=true:=fun j hj=>by rw [ltK,Nat.blt_eq];exact hj
   refine ⟨?_,?_,?_,fun x hx=>?_,fun k' b' hne hk' x hx hx'=>?_⟩
   ·rcases hc1 with ⟨rfl,_⟩|⟨rfl,_⟩|⟨rfl,_⟩|⟨h1,_⟩<;>exact hlt _ (by omega)
   ·rcases hc1 with ⟨_,rfl⟩|⟨_,rfl⟩|⟨_,rfl⟩|⟨_,_,h3⟩
    ·exact trivial
    ·exact hlt _ (by omega)
    ·exact trivial
    ·exact Zdo (fun j hj=>by simp only [CS.st,ltK,Nat.blt_eq] at hj ⊢;omega) (hS t' k b hIX h3).2.2.2
   ·rcases hc1 with ⟨rfl,rfl⟩|⟨rfl,rfl⟩|⟨rfl,rfl⟩|⟨h1,h2,h3⟩
    ·dsimp only
     rw [if_pos rfl,if_pos rfl]
     exact ⟨[w.heap.size],rfl,fun b hb=>by rw [List.mem_singleton.1 hb];exact (hput _ (by omega)).trans a6,by simp,fun y=>by simp⟩
    ·dsimp only
     rw [if_neg (by omega),if_neg (by omega),if_neg (by omega),if_pos rfl]
     obtain ⟨b,cells,T,t1,t2,t3,t4⟩:=q1
     refine ⟨b,cells,T,by rw [a8 k hkq,←e2];exact t1,(hput b (n2 b ((t4 b).2 rfl)).2).trans t2,?_,t4⟩
     show cells.toList=[(if M=M+1 then _ else if M=M then ν' 5 else νA M)]
     rw [if_neg (by omega),if_pos rfl];exact t3
    ·dsimp only
     rw [if_neg (by omega),if_pos rfl,if_neg (by omega),if_neg (by omega),if_pos rfl]
     exact Zbl (fun _ h=>h) hZput (fun x hx=>hput x (n5 x hx).2) i1
    ·dsimp only
     rw [if_neg (by omega),if_neg (by omega),if_neg (by omega),if_neg h2,if_neg (by omega)]
     obtain ⟨g1,g2,g3⟩:=a9 k b h3
     exact Zet (μ:=ltK M) (fun j hj=>by rw [ltK,Nat.blt_eq] at hj;rw [if_neg (by omega),if_neg (by omega)]) (hS t' k b hIX h3).2.2.2 (Zbl (fun _ h=>h) hZput (fun x hx=>hput x (g2 x hx).2.1) g1)
   ·rw [World.putObj_size]
    rcases hfx hc1 hx with ⟨_,rfl⟩|⟨_,h⟩|⟨_,h⟩|⟨_,_,_,h,_⟩
    ·exact s2 _ a4
    ·exact q2 x h
    ·exact i2 x h
    ·exact s2 x h
   ·rcases hfx hc1 hx with ⟨r1,h⟩|⟨r1,h⟩|⟨r1,h⟩|⟨r1,r1',hG,h,_,hD⟩<;>rcases hfx (hc hk') hx' with ⟨r2,h'⟩|⟨r2,h'⟩|⟨r2,h'⟩|⟨r2,r2',hG',h',_,hD'⟩
    ·exact hne (r1.trans r2.symm)
    ·exact (n2 x h').1 h
    ·exact (n5 x h').1 h
    ·exact hD' h
    ·exact (n2 x h).1 h'
    ·exact hne (r1.trans r2.symm)
    ·exact d25 x h h'
    ·exact d24 x h h'
    ·exact (n5 x h).1 h'
    ·exact d25 x h' h
    ·exact hne (r1.trans r2.symm)
    ·exact d54 x h h'
    ·exact hD h'
    ·exact d24 x h' h
    ·exact d54 x h' h
    ·rcases hc1 with ⟨e,_⟩|⟨e,_⟩|⟨e,_⟩|⟨_,_,g⟩
     ·omega
     ·exact r1' e
     ·omega
     rcases hc hk' with ⟨e,_⟩|⟨e,_⟩|⟨e,_⟩|⟨_,_,g'⟩
     ·omega
     ·exact r2' e
     ·omega
     exact (a9 k b g).2.2 k' b' hne g' x hG hG'
  ·rw [World.putObj_size]
   rcases hb with hb|hb
   ·have h1:=hg.kl b hb
    have h2:=hst.ext.size
    omega
   ·exact hz b hb
  ·show _++a.defers=List.flatMap (fun k=>Ze5 (if k=M+1 then _ else _)) [M+1]
   rw [hdef,List.flatMap_cons,List.flatMap_nil,List.append_nil,if_pos rfl]
   rw [Zhu];rfl
  ·simp only [CS.st,List.mem_cons,List.not_mem_nil,or_false] at hk
   subst hk
   show Nat.blt (M+1) (M+2)=true
   rw [Nat.blt_eq];exact Nat.lt_succ_self _
 cases bb with
 |true =>
  have hp:(Zc4 rc lv true).pending=none:=by show rc.pending=none;rw [hrc]
  have hend:=hend.trans (congrArg (fun q=>Result.ok q (W'.putObj (w.heap.size+1) (.loop { Zc4 rc lv true with state:=.exhausted }))) hp)
  exact ⟨none,_,hend,hkey _ (next t' (hbt rfl).1 (hbt rfl).2)⟩
 |false =>
  have hk2:=hkey _ (left t' (hbf rfl))
  refine ⟨some lv.c,_,hend,?_⟩
  cases lv with
  |ret=>exact wpIn_ret hk2
  |exit id=>exact wpIn_exit hk2
end
open Go Pl
set_option maxRecDepth 4000 in
set_option maxHeartbeats 4000000 in
theorem queue1_iterX {τ:Type} (I X:τ→Prop) (ql:τ→List Int) (ms:τ→Nat) (hq:∀ t,I t→(ql t).length≤1000000000) :
  IterX Tryz.prog 76 I X ql (fun t=>(ql t).drop 1) (fun t=>(ql t).getD 0 0) (fun t=>0 < (ql t).length) (fun t t'=>ms t' < ms t) (fun _=>True) (fun t=>ql t=[]):=by
 intro A hY t0 h0 _
 refine Zc5 htb (fn:=Tryz.f76) (by kernel_rfl) (by kernel_rfl) rfl (Nat.le_of_ble_eq_true rfl) fun hl=>?_
 simp only [lenP,mkL,lim] at hl
 repeat' first|exact gE|refine gS noSp x0 [] ?_|refine gO noSp x0 [] ?_ ?_|refine gC ?_ ?_<;>intro hb
 refine Zag I (fun t=>⟨6,[(0,.yld 0),(1,.own 1)],[(1,some (.box (.own 2))),(2,some (.box (.own 5))),(5,some (.ints (ql t))),(4,some (.sem [0,2] (A true t)))],[]⟩) ms t0 [(5,3)] ?_ h0 ?_
 ·refine ⟨rfl,?_,?_⟩<;>simp only [zE,evp,evx,ev1,evLoad,evStore,evBin,evIf,Zac,forall_const,z38,tb,reduceAdd,reduceSub,reduceMul,reduceEqDiff,reduceLeDiff,reduceLT,Nat.reduceBEq,Nat.reduceBNe,↓reduceIte,reduceIte,zI]
  intro k hk
  simp only [List.mem_cons,List.not_mem_nil,or_false] at hk
  simp only [decide_eq_true_eq]
  omega
 intro t ht
 have hq:=hq t ht
 repeat' first|exact gE|refine gS noSp x0 [3] ?_|refine gO noSp x0 [3] ?_ ?_|refine gC ?_ ?_<;>intro hb
 ·have hl:0 < (ql t).length:=by omega
  refine Za2 ([_,_]) ([_]) rfl rfl ?_
  refine gTn noSp x0 ?_ ?_
  ·first|exact oA|skip
  refine awpL_yield [0,2,21,4] (hY t ht hl) rfl rfl rfl rfl rfl rfl rfl rfl ?_ ?_
  ·simp only [rinR,rhoC,zE,evp,evx,ev1,evLoad,evStore,evBin,evIf,Zac,forall_const,z38,tb,reduceAdd,reduceSub,reduceMul,reduceEqDiff,reduceLeDiff,reduceLT,Nat.reduceBEq,Nat.reduceBNe,↓reduceIte,reduceIte]
   intro k hk
   simp only [List.mem_cons,List.not_mem_nil,or_false] at hk
   simp only [decide_eq_true_eq]
   omega
  intro gm gv gr hq' m' e' l' h
  obtain ⟨b,t',ht',hf',hge⟩:=hq'
  simp only [GR.mk.injEq] at hge
  obtain ⟨rfl,rfl,rfl⟩:=hge
  simp only [rhoC,outR,renR,dels,zE,evp,evx,ev1,evLoad,evStore,evBin,evIf,Zac,forall_const,z38,tb,reduceAdd,reduceSub,reduceMul,reduceEqDiff,reduceLeDiff,reduceLT,Nat.reduceBEq,Nat.reduceBNe,↓reduceIte,reduceIte] at h
  obtain ⟨rfl,rfl,rfl⟩:=h
  refine Zaf ?_
  refine gT noSp x0 ?_ ?_
  ·first|exact oA|skip
  cases b
  ·repeat' first|exact gE|refine gS noSp x0 [] ?_|refine gO noSp x0 [] ?_ ?_|refine gC ?_ ?_<;>intro hb
   ·refine Zc0 rfl rfl (Zbe ⟨6,resV [],[(1,some (.box (.own 2))),(2,some (.box (.own 5))),(5,some (.ints (ql t'))),(4,some (.sem [0,2] (A false t')))]⟩ [(5,26)] ⟨false,t',(fun h=>by cases h),fun _=>hf' rfl,rfl⟩ rfl (Zal rfl) ?_)
    simp only [grR,zE,evp,evx,ev1,evLoad,evStore,evBin,evIf,Zac,forall_const,z38,tb,reduceAdd,reduceSub,reduceMul,reduceEqDiff,reduceLeDiff,reduceLT,Nat.reduceBEq,Nat.reduceBNe,↓reduceIte,reduceIte]
    intro k hk
    simp only [List.mem_cons,List.not_mem_nil,or_false] at hk
    simp only [decide_eq_true_eq]
    omega
   ·cases hb
  ·obtain ⟨ht',hi'⟩:=ht' rfl
   repeat' first|exact gE|refine gS noSp x0 [] ?_|refine gO noSp x0 [] ?_ ?_|refine gC ?_ ?_<;>intro hb
   ·cases hb
   ·refine back t' [(5,26)] ?_ ht' hi'
    refine ⟨rfl,?_,?_⟩<;>simp only [zE,evp,evx,ev1,evLoad,evStore,evBin,evIf,Zac,forall_const,z38,tb,reduceAdd,reduceSub,reduceMul,reduceEqDiff,reduceLeDiff,reduceLT,Nat.reduceBEq,Nat.reduceBNe,↓reduceIte,reduceIte,zI]
    intro k hk
    simp only [List.mem_cons,List.not_mem_nil,or_false] at hk
    simp only [decide_eq_true_eq]
    omega
 ·have hnil:ql t=[]:=List.eq_nil_of_length_eq_zero (by omega)
  refine Zc0 rfl rfl (Zbe ⟨6,resV [],[(1,some (.box (.own 2))),(2,some (.box (.own 5))),(5,some (.ints (ql t))),(4,some (.sem [0,2] (A true t)))]⟩ [] ⟨true,t,fun _=>⟨ht,hnil⟩,(fun h=>by cases h),rfl⟩ rfl (Zal rfl) ?_)
  simp only [grR,zE,evp,evx,ev1,evLoad,evStore,evBin,evIf,Zac,forall_const,z38,tb,reduceAdd,reduceSub,reduceMul,reduceEqDiff,reduceLeDiff,reduceLT,Nat.reduceBEq,Nat.reduceBNe,↓reduceIte,reduceIte]
  intro k hk
  simp only [List.mem_cons,List.not_mem_nil,or_false] at hk
  simp only [decide_eq_true_eq]
  omega
open Go Pl
def Za4 := Hd.mk (And.intro @spMs.eq_1<|And.intro @spMs.eq_2<|And.intro @bestS14.eq_1<|And.intro @lessS.eq_1<|And.intro @msA.eq_1<|And.intro @Zdj<|And.intro @Zek<|@Zej)
set_option maxRecDepth 4000 in
set_option maxHeartbeats 8000000 in
theorem measures_fg {odd many o p:List Int} {x:List (List Int)} (hS:SOK odd many) (hv:Zau ⟨o,p,x⟩=true) :
  FG Tryz.prog 34 [.agg (.cons (.roI odd) (.cons (.roI many) .nil)),.agg (.cons (.roI o) (.cons (.roI p) (.cons (.roII x) .nil)))] [] 0 fun g=>g=⟨1,resV [.own 0,.bool true],[(0,some (.avs 2 o.length fun j=>msA (deM many ((Zeh ⟨o,p,x⟩ odd many).getD j 0))))]⟩∨g=⟨0,resV [.cst (.slice none 0 0),.bool false],[]⟩:=by
 refine Zc5 htb (fn:=Tryz.f34) (by kernel_rfl) (by kernel_rfl) rfl (Nat.le_of_ble_eq_true rfl) fun hl=>?_
 simp only [lenP,mkL,lim] at hl
 have hV:=validB_iff.1 hv
 obtain ⟨hn,hpl,hxl,hpos⟩:=id hV
 simp only [Gm.n] at hn hpl hxl
 have hrl:∀ v,v < o.length→(x.getD v []).length≤64:=fun v h=>by
  obtain ⟨⟨a1,a2,a3,a4,_,a6⟩,_⟩:=hpos v (by simp only [Gm.n];omega)
  exact a6
 have hrb:∀ v,v < o.length→∀ j,j < (x.getD v []).length→0≤(x.getD v []).getD j 0∧(x.getD v []).getD j 0 < o.length:=fun v h j hj=>by
  obtain ⟨_,hr⟩:=hpos v (by simp only [Gm.n];omega)
  exact ⟨(hr j hj).1,(hr j hj).2.1⟩
 have hn12:o.length≤20000:=hn
 have hS2:=hS.l100
 have hb4:∀ i t,i≤x.length→(bkI x t i).length≤64 * i:=fun i t h=>Zjz (fun v hv=>hrl v (by omega)) i h
 repeat' first|exact gE|refine gS Zb2 Za4 [] ?_|refine gO Zb2 Za4 [] ?_ ?_|refine gC ?_ ?_<;>intro hb
 refine Zft 16 (.ints []) (.own 24) rfl rfl rfl (by first|exact .inl rfl|exact .inr (.inl rfl)|exact .inr (.inr (.inl rfl))|exact .inr (.inr (.inr rfl))) (by simp only [Zai,Zeu,fzE,fzA,fzR,fzB,set1,nbeq,reduceEqDiff,decide_true,decide_false,↓reduceIte,reduceIte,cond_true,cond_false,List.take_length,Option.some.injEq]<;>rfl) rfl ?_
 refine Zag (τ:=Nat) (fun i=>i≤o.length) (fun i=>⟨25,[(31,.int .i64 i),(30,.int .i64 o.length),(10,.own 19),(9,.own 16),(8,.own 13),(7,.own 12),(5,.own 3),(4,.own 2),(3,.rop (.agg (.cons (.roI o) (.cons (.roI p) (.cons (.roII x) .nil))))),(2,.rop (.agg (.cons (.roI odd) (.cons (.roI many) .nil))))],
  [(9,some (.avs 2 o.length (msZ odd.length i))),(11,some (.rows ((List.range x.length).map fun t=>bkI x t i))),(12,some (.box (.own 9))),(13,some (.box (.own 11))),(16,some (.box (.own 24))),(24,some (.ints ((List.range i).map fun v:Nat=>(v:Int)))),(18,some (.bools (mix (fun _=>true) (fun _=>false) o.length i))),(19,some (.box (.own 18))),(2,some (.box (.cst (Value.slice none 0 0)))),(3,some (.box (.bool false)))],[]⟩) (fun i=>o.length - i) 0 [] ?_ (Nat.zero_le _) ?_
 ·refine ⟨rfl,?_,?_⟩<;>simp only [zE,evp,evx,ev1,evLoad,evStore,evBin,evIf,Zac,forall_const,z38,tb,reduceAdd,reduceSub,reduceMul,reduceEqDiff,reduceLeDiff,reduceLT,Nat.reduceBEq,Nat.reduceBNe,↓reduceIte,reduceIte,spMs,bestS14,lessS,msA,Zdj,Zek,Zej,zI]
  refine ⟨congrArg (Blk.avs 2 o.length) msZ_zero,List.ext_getElem (by simp [hxl]) fun j h1 h2=>by simp [bkI],rfl,List.ext_getElem (by simp [mix]) fun j h1 h2=>by simp [mix]⟩
 intro i hi
 have hml:(mix (fun _=>true) (fun _=>false) o.length i).length=o.length:=Zfk
 have hrg:((List.range i).map fun v:Nat=>(v:Int)).length=i:=by simp
 repeat' first|exact gE|refine gS Zb2 Za4 [8,16] ?_|refine gO Zb2 Za4 [8,16] ?_ ?_|refine gC ?_ ?_<;>intro hb
 ·have hin:i < o.length:=by omega
  refine gRa Zb2 Za4 (fun i=>Nat.beq i 5) ?_ ?_
  ·first|exact oA|skip
  repeat' first|exact gE|refine gS Zb2 Za4 [11] ?_|refine gO Zb2 Za4 [11] ?_ ?_|refine gC ?_ ?_<;>intro hb
  have hrb:=hrb i hin
  have hrl:=hrl i hin
  have hj0:∀ t,bkJ x t i (x.getD i []).length=bkI x t (i+1):=fun t=>bkJ_all
  have hjs:∀ t j,j < (x.getD i []).length→bkJ x t i (j+1)=if (x.getD i []).getD j 0=(t:Int) then bkJ x t i j++[(i:Int)] else bkJ x t i j:=fun t j h=>bkJ_succ h
  have hjl:∀ t j,(bkJ x t i j).length≤64 * i+64:=fun t j=>by
   have h1:=hb4 i t (by omega)
   have h2:((x.getD i []).take j).count (t:Int)≤((x.getD i []).take j).length:=List.count_le_length
   have h3:((x.getD i []).take j).length≤(x.getD i []).length:=by rw [List.length_take];omega
   simp only [bkJ,List.length_append,List.length_replicate];omega
  generalize hrw:x.getD i []=rw at *
  refine Zag (τ:=Nat) (fun j=>j≤rw.length) (fun j=>⟨53,[(55,.int .i64 j),(54,.int .i64 rw.length),(53,.roI rw),(11,.int .i64 i),(31,.int .i64 i),(30,.int .i64 o.length),(10,.own 19),(9,.own 16),(8,.own 13),(7,.own 12),(5,.own 3),(4,.own 2),(3,.rop (.agg (.cons (.roI o) (.cons (.roI p) (.cons (.roII x) .nil))))),(2,.rop (.agg (.cons (.roI odd) (.cons (.roI many) .nil))))],
   [(9,some (.avs 2 o.length (msZ odd.length (i+1)))),(11,some (.rows ((List.range x.length).map fun t=>bkJ x t i j))),(12,some (.box (.own 9))),(13,some (.box (.own 11))),(16,some (.box (.own 42))),(42,some (.ints ((List.range (i+1)).map fun v:Nat=>(v:Int)))),(18,some (.bools (mix (fun _=>true) (fun _=>false) o.length (i+1)))),(19,some (.box (.own 18))),(2,some (.box (.cst (Value.slice none 0 0)))),(3,some (.box (.bool false)))],[]⟩) (fun j=>rw.length - j) 0 [] ?_ (Nat.zero_le _) ?_
  ·refine ⟨rfl,?_,?_⟩<;>simp only [zE,evp,evx,ev1,evLoad,evStore,evBin,evIf,Zac,forall_const,z38,tb,reduceAdd,reduceSub,reduceMul,reduceEqDiff,reduceLeDiff,reduceLT,Nat.reduceBEq,Nat.reduceBNe,↓reduceIte,reduceIte,spMs,bestS14,lessS,msA,Zdj,Zek,Zej,zI,bkJ_zero]
   exact ⟨congrArg (Blk.avs 2 o.length) msZ_next,by rw [List.range_succ,List.map_append];rfl,Zfj (f:=fun _=>true)⟩
  intro j hj
  have hrb:=hrb j
  have hget:∀ t,t < x.length→((List.range x.length).map fun t=>bkJ x t i j).getD t []=bkJ x t i j:=fun t ht=>by simp [List.getD_eq_getElem?_getD,ht]
  have hlen:((List.range x.length).map fun t=>bkJ x t i j).length=x.length:=by simp
  repeat' first|exact gE|refine gS Zb2 Za4 [] ?_|refine gO Zb2 Za4 [] ?_ ?_|refine gC ?_ ?_<;>intro hb
  ·have hjr:j < rw.length:=by omega
   obtain ⟨c1,c2⟩:=hrb hjr
   have h1:=hget (rw.getD j 0).toNat (by omega)
   have h2:=hjl (rw.getD j 0).toNat j
   rw [h1,hlen]
   exact Ob.mk ⟨⟨⟨⟨⟨by omega,by omega⟩,by omega⟩,by omega⟩,by omega,by omega⟩,by omega⟩
  ·have hjr:j < rw.length:=by omega
   obtain ⟨c1,c2⟩:=hrb hjr
   refine back (j+1) [] ?_ (by omega) (by omega)
   first|exact leZ Za4|refine leA Za4 ?_|refine leB Za4 ?_ ?_
   refine Zmr (fun ht=>?_) fun s hs=>?_
   ·rw [hjs _ j hjr,if_pos (by omega),hget _ ht]
   ·rw [hjs _ j hjr,if_neg (by omega)]
  ·have hje:j=rw.length:=by omega
   subst hje
   refine back (i+1) [(24,42)] ?_ (by omega) (by omega)
   first|exact leZ Za4|refine leA Za4 ?_|refine leB Za4 ?_ ?_
   exact List.map_congr_left fun t _=>hj0 t
 have hie:i=o.length:=by omega
 subst hie
 have hbk:(List.range x.length).map (fun t=>bkI x t o.length)=Zbf x:=by unfold Zbf;rw [hxl]
 rw [Zfl,hbk]
 refine Zbb 11 (.roII (Zbf x)) ?_
 have hp0:=Zdn hS.ps
 have hz0:deM many 0=(false,List.replicate odd.length 0):=by
  obtain ⟨z1,z2⟩:=Zkf hS.ps
  have:=Zmy z1
  rw [z2] at this
  rw [this,hS.len]
 have hr0:∀ j,(List.replicate o.length (0:Int)).getD j 0=0:=fun j=>by
  rw [List.getD_eq_getElem?_getD,List.getElem?_replicate];split<;>rfl
 refine awp_avs 9 (fun j=>msA (deM many ((List.replicate o.length (0:Int)).getD j 0))) rfl (fun j hj=>by rw [hr0,hz0];unfold msZ;rw [if_pos hj]) rfl ?_
 repeat' first|exact gE|refine gS Zb2 Za4 [17] ?_|refine gO Zb2 Za4 [17] ?_ ?_|refine gC ?_ ?_<;>intro hb
 refine Zcf rfl ?_
 refine gCl ([16,24]) (queue_fg ((List.range o.length).map fun v:Nat=>(v:Int))) Za4 ?_
 have hG:GOK ⟨o,p,x⟩ many:=⟨hS.ps,fun v hv=>by
  obtain ⟨⟨a1,a2,a3,a4,a5,a6⟩,_⟩:=hpos v (by simp only [Gm.n];exact hv)
  exact a5,fun v hv t ht=>by
  obtain ⟨j,hj,rfl⟩:=List.getElem_of_mem ht
  rw [Zfx] at hj
  have:=hrb v hv j hj
  have e:(rws x v)[j]=(rws x v).getD j 0:=by rw [List.getD_eq_getElem?_getD,List.getElem?_eq_getElem (by rw [Zfx];exact hj)];rfl
  show (rws x v)[j] < o.length
  rw [e,Zix];omega⟩
 have hQ0:QJ ⟨o,p,x⟩ odd many (List.replicate o.length 0) ((List.range o.length).map fun _=>true) (List.range o.length) 1048576 fun _=>False:=by
  refine { lr:=⟨List.length_replicate,fun v hv=>by rw [hr0];omega⟩,blw:=fun l' hl' v hv=>by rw [hr0];exact (hl'.rng v hv).1,tl:=by simp,tw:=fun v hv=>?_,wn:=List.nodup_range,wb:=fun v hv=>List.mem_range.1 hv,st:=fun v hv h=>absurd (List.mem_range.2 hv) h,lf:=by simp,l2:=Int.le_refl _ }
  have hv:v < o.length:=hv
  simp [List.getD_eq_getElem?_getD,hv]
 refine Zj3 ?_
 refine Zfm ⟨30,[(71,.fn 76 (.cons (.own 28) .nil)),(14,.own 26),(10,.own 19),(9,.own 16),(8,.own 13),(7,.own 12),(5,.own 3),(4,.own 2),(3,.rop (.agg (.cons (.roI o) (.cons (.roI p) (.cons (.roII x) .nil))))),(2,.rop (.agg (.cons (.roI odd) (.cons (.roI many) .nil))))],
  (28,some (.box (.own 16))) :: Zcr 16 29 ((List.range o.length).map fun v:Nat=>(v:Int)) [(9,some (.avs 2 o.length (fun j=>msA (deM many ((List.replicate o.length (0:Int)).getD j 0))))),(12,some (.box (.own 9))),(13,some (.box (.roII (Zbf x)))),(18,some (.bools ((List.range o.length).map fun _=>true))),(19,some (.box (.own 18))),(26,some (.box (.int .i64 1048576))),(2,some (.box (.cst (Value.slice none 0 0)))),(3,some (.box (.bool false)))],[]⟩ [(29,24)] ?_ ?_
 ·refine ⟨rfl,?_,?_⟩<;>simp only [Zcr,zE,evp,evx,ev1,evLoad,evStore,evBin,evIf,Zac,forall_const,z38,tb,reduceAdd,reduceSub,reduceMul,reduceEqDiff,reduceLeDiff,reduceLT,Nat.reduceBEq,Nat.reduceBNe,↓reduceIte,reduceIte,spMs,bestS14,lessS,msA,Zdj,Zek,Zej,zI]
 refine awp_rangeX (m:=29) (M:=29) (kb:=28) (kq:=16) (fun b:QSt=>QJ ⟨o,p,x⟩ odd many b.l b.th b.w b.left (fun _=>False)∧0≤b.left) (fun _=>True) (fun b=>b.w.map fun v:Nat=>(v:Int)) (fun b=>(b.w.map fun v:Nat=>(v:Int)).drop 1) (fun b=>(b.w.map fun v:Nat=>(v:Int)).getD 0 0) (fun b=>0 < (b.w.map fun v:Nat=>(v:Int)).length) (fun b b'=>qm ⟨o,p,x⟩ many b'.l b'.w < qm ⟨o,p,x⟩ many b.l b.w) (fun _=>True) (fun b=>(b.w.map fun v:Nat=>(v:Int))=[]) .ret
  (fun b=>[(9,some (.avs 2 o.length (fun j=>msA (deM many (b.l.getD j 0))))),(12,some (.box (.own 9))),(13,some (.box (.roII (Zbf x)))),(18,some (.bools b.th)),(19,some (.box (.own 18))),(26,some (.box (.int .i64 b.left))),(2,some (.box (.cst (Value.slice none 0 0)))),(3,some (.box (.bool false)))]) ⟨List.replicate o.length 0,(List.range o.length).map fun _=>true,List.range o.length,1048576⟩
  (queue1_iterX _ _ _ (fun b:QSt=>qm ⟨o,p,x⟩ many b.l b.w) fun b hb=>?_) ⟨hQ0,(by decide:(0:Int)≤1048576)⟩ trivial rfl rfl rfl rfl rfl rfl rfl rfl (fun b k B _ hk=>Zmf (l:=[(9,some (.avs 2 o.length (fun j=>msA (deM many (b.l.getD j 0))))),(12,some (.box (.own 9))),(13,some (.box (.roII (Zbf x)))),(18,some (.bools b.th)),(19,some (.box (.own 18))),(26,some (.box (.int .i64 b.left))),(2,some (.box (.cst (Value.slice none 0 0)))),(3,some (.box (.bool false)))]) ?_ (Zdu hk).2) ?_ ?_ ?_
 ·have:=Zcq _ _ hb.1.wn hb.1.wb
  simp only [List.length_map]
  dsimp only at this
  omega
 ·exact ⟨⟨by decide,by decide,by decide,fun _ _=>rfl⟩,⟨by decide,by decide,by decide,rfl⟩,⟨by decide,by decide,by decide,rfl⟩,⟨by decide,by decide,by decide,trivial⟩,⟨by decide,by decide,by decide,rfl⟩,⟨by decide,by decide,by decide,rfl⟩,⟨by decide,by decide,by decide,rfl⟩,⟨by decide,by decide,by decide,rfl⟩,trivial⟩
 ·rintro lp ⟨l,th,w,left⟩ ⟨hB,hl0⟩ hi
  dsimp only [Zcr] at hB hl0 hi ⊢
  obtain ⟨v,w,rfl⟩:∃ v w',w=v :: w':=by
   cases w with
   |nil=>exact absurd hi (by simp)
   |cons v w'=>exact ⟨v,w',rfl⟩
  obtain ⟨hP,hvn⟩:=QJ_pop hB
  have hvn:v < o.length:=hvn
  have hB0:=hB
  clear hB hi
  rw [show ((v :: w).map fun v:Nat=>(v:Int)).getD 0 0=(v:Int) from rfl,show ((v :: w).map fun v:Nat=>(v:Int)).drop 1=w.map fun v:Nat=>(v:Int) from rfl]
  have htl:th.length=o.length:=by have:=hP.tl;rw [List.length_set] at this;exact this
  refine gR Zb2 Za4 ?_ ?_
  ·first|exact oA|skip
  refine ⟨rfl,?_⟩
  have hok:∀ j,j < o.length→okM many (deM many (l.getD j 0)):=fun j hj=>by
   have h3:=hP.lr.rng j hj
   exact (Zo2 hS.ps h3.1 h3.2).2
  have hml:mlF many o.length (fun j=>deM many (l.getD j 0))=l:=mlF_is (g:=⟨o,p,x⟩) hS.ps hP.lr
  repeat' first|exact gE|refine gS Zb2 Za4 [20] ?_|refine gO Zb2 Za4 [20] ?_ ?_|refine gC ?_ ?_<;>intro hb
  refine Za2 ([_,_,_,_]) ([_,_,_,_,_,_]) rfl rfl ?_
  refine gTn Zb2 Za4 ?_ ?_
  ·first|exact oA|skip
  refine gCl ([9]) (best_fg14 (F:=fun j=>deM many (l.getD j 0)) (v:=v) hS hv hok hvn) Za4 ?_
  rw [hml]
  refine gT Zb2 Za4 ?_ ?_
  ·first|exact oA|skip
  have hVb:=Zmz (odd:=odd) hG.hp hP.lr (hG.hr v hvn) (hG.hw v hvn)
  have hlb:=hP.lr.rng v hvn
  have hlen:=hP.lr.len
  dsimp only at hlen
  have hsk:=@QJ_skip _ _ _ _ _ _ _ _ hP
  have hra:=fun h=>QJ_raise hG hP hvn h
  generalize Ze0 ⟨o,p,x⟩ odd many l v=V at *
  have hls:Zdc (deM many (l.getD v 0)) (deM many V)=decide (l.getD v 0 < V):=Zjt hS.ps hlb.1 hlb.2 hVb.1 hVb.2
  refine Zaf ?_
  repeat' first|exact gE|refine gS Zb2 Za4 [22,22] ?_|refine gO Zb2 Za4 [22,22] ?_ ?_|refine gC ?_ ?_<;>intro hb
  ·rw [show Zdc ((deM many (l.getD v 0)).1,(deM many (l.getD v 0)).2) ((deM many V).1,(deM many V).2)=Zdc (deM many (l.getD v 0)) (deM many V) from rfl,hls] at hb
   refine ⟨_,⟨l,th.set v false,w,left⟩,[],rfl,⟨rfl,?_,?_⟩,.inl ⟨rfl,⟨hsk (by simpa using hb),hl0⟩,?_⟩⟩
   ·simp only [leE,zE,evp,evx,ev1,evLoad,evStore,evBin,evIf,Zac,forall_const,z38,tb,reduceAdd,reduceSub,reduceMul,reduceEqDiff,reduceLeDiff,reduceLT,Nat.reduceBEq,Nat.reduceBNe,↓reduceIte,reduceIte,spMs,bestS14,lessS,msA,Zdj,Zek,Zej]
   ·simp only [Zcr,zE,evp,evx,ev1,evLoad,evStore,evBin,evIf,Zac,forall_const,z38,tb,reduceAdd,reduceSub,reduceMul,reduceEqDiff,reduceLeDiff,reduceLT,Nat.reduceBEq,Nat.reduceBNe,↓reduceIte,reduceIte,spMs,bestS14,lessS,msA,Zdj,Zek,Zej,zI]
   ·unfold qm
    simp only [List.length_cons]
    omega
  ·rw [show Zdc ((deM many (l.getD v 0)).1,(deM many (l.getD v 0)).2) ((deM many V).1,(deM many V).2)=Zdc (deM many (l.getD v 0)) (deM many V) from rfl,hls] at hb
   have hlt:l.getD v 0 < V:=by simpa using hb
   have hR:=hra hlt
   have hl2:=hR.l2
   have hbl:(Zbf x).length=x.length:=by simp [Zbf]
   have hbf:=Zj0 hV hvn
   have hba:=Zln hV hvn
   dsimp only at hbf hba
   repeat' first|exact gE|refine gS Zb2 Za4 [24] ?_|refine gO Zb2 Za4 [24] ?_ ?_|refine gC ?_ ?_<;>intro hb
   ·repeat' first|exact gE|refine gS Zb2 Za4 [] ?_|refine gO Zb2 Za4 [] ?_ ?_|refine gC ?_ ?_<;>intro hb
    refine ⟨_,⟨l,th.set v false,w,left - 1⟩,[],rfl,⟨rfl,?_,?_⟩,.inr ⟨rfl,trivial⟩⟩
    ·simp only [leE,zE,evp,evx,ev1,evLoad,evStore,evBin,evIf,Zac,forall_const,z38,tb,reduceAdd,reduceSub,reduceMul,reduceEqDiff,reduceLeDiff,reduceLT,Nat.reduceBEq,Nat.reduceBNe,↓reduceIte,reduceIte,spMs,bestS14,lessS,msA,Zdj,Zek,Zej]
    ·simp only [Zcr,zE,evp,evx,ev1,evLoad,evStore,evBin,evIf,Zac,forall_const,z38,tb,reduceAdd,reduceSub,reduceMul,reduceEqDiff,reduceLeDiff,reduceLT,Nat.reduceBEq,Nat.reduceBNe,↓reduceIte,reduceIte,spMs,bestS14,lessS,msA,Zdj,Zek,Zej,zI]
   rw [ms_set (by omega)]
   generalize hbk2:(Zbf x).getD v []=bk at *
   have hbkl:bk.length≤1280000:=by
    have h1:(Zbf x).getD v []=bkI x v x.length:=by
     have:v < x.length:=by omega
     simp [Zbf,List.getD_eq_getElem?_getD,this]
    have h2:=hb4 x.length v (Nat.le_refl _)
    rw [hbk2] at h1
    rw [h1];omega
   refine Zag (τ:=QIn) (fun t=>t.r≤bk.length∧QJ ⟨o,p,x⟩ odd many (l.set v V) t.th t.w (left - 1) (fun u=>v∈rws x u∧u ∉ (bk.take t.r).map Int.toNat)) (fun t=>⟨68,[(104,.int .i64 t.r),(103,.int .i64 bk.length),(102,.roI bk),(10,.own 19),(9,.own 16)],
    [(9,some (.avs 2 o.length (fun j=>msA (deM many ((l.set v V).getD j 0))))),(16,some (.box (.own 29))),(29,some (.ints (t.w.map fun v:Nat=>(v:Int)))),(12,some (.box (.own 9))),(13,some (.box (.roII (Zbf x)))),(18,some (.bools t.th)),(19,some (.box (.own 18))),(26,some (.box (.int .i64 (left - 1)))),(2,some (.box (.cst (Value.slice none 0 0)))),(3,some (.box (.bool false)))],[]⟩) (fun t=>bk.length - t.r) ⟨th.set v false,w,0⟩ [] ?_ ⟨Nat.zero_le _,QJ_weak hR fun u hu h=>⟨h,by simp⟩⟩ ?_
   ·refine ⟨rfl,?_,?_⟩<;>simp only [zE,evp,evx,ev1,evLoad,evStore,evBin,evIf,Zac,forall_const,z38,tb,reduceAdd,reduceSub,reduceMul,reduceEqDiff,reduceLeDiff,reduceLT,Nat.reduceBEq,Nat.reduceBNe,↓reduceIte,reduceIte,spMs,bestS14,lessS,msA,Zdj,Zek,Zej,zI]
   rintro ⟨th,w,r⟩ ⟨hr,hd⟩
   dsimp only at hr hd ⊢
   have htl2:=hd.tl
   dsimp only at htl2
   have hbf:=hbf r
   have hwl:w.length≤o.length:=Zcq _ _ hd.wn hd.wb
   have hwm:(w.map fun v:Nat=>(v:Int)).length=w.length:=List.length_map ..
   repeat' first|exact gE|refine gS Zb2 Za4 [] ?_|refine gO Zb2 Za4 [] ?_ ?_|refine gC ?_ ?_<;>intro hb
   ·have hrl2:r < bk.length:=by omega
    obtain ⟨u1,u2,u3,u4⟩:=hbf hrl2
    refine back ⟨th.set (bk.getD r 0).toNat true,w++[(bk.getD r 0).toNat],r+1⟩ [(29,82)] ?_ ⟨by dsimp only;omega,?_⟩ (by dsimp only;omega)
    ·first|exact leZ Za4|refine leA Za4 ?_|refine leB Za4 ?_ ?_
     rw [List.map_append,List.map_cons,List.map_nil,←u1]
    ·dsimp only
     rw [Zff (d:=0) hrl2,List.map_append]
     exact QJ_push hd u2 hb
   ·have hrl2:r < bk.length:=by omega
    obtain ⟨u1,u2,u3,u4⟩:=hbf hrl2
    refine back ⟨th,w,r+1⟩ [] ?_ ⟨by dsimp only;omega,?_⟩ (by dsimp only;omega)
    ·first|exact leZ Za4|refine leA Za4 ?_|refine leB Za4 ?_ ?_
    ·dsimp only
     rw [Zff (d:=0) hrl2,List.map_append]
     exact QJ_past hd u2 hb
   ·have hre:r=bk.length:=by omega
    subst hre
    refine ⟨_,⟨l.set v V,th,w,left - 1⟩,[],rfl,⟨rfl,?_,?_⟩,.inl ⟨rfl,⟨QJ_weak hd fun u hu h=>?_,by dsimp only;omega⟩,qm_raise hd.lr (by omega) hlt hwl⟩⟩
    ·simp only [leE,zE,evp,evx,ev1,evLoad,evStore,evBin,evIf,Zac,forall_const,z38,tb,reduceAdd,reduceSub,reduceMul,reduceEqDiff,reduceLeDiff,reduceLT,Nat.reduceBEq,Nat.reduceBNe,↓reduceIte,reduceIte,spMs,bestS14,lessS,msA,Zdj,Zek,Zej]
    ·simp only [Zcr,zE,evp,evx,ev1,evLoad,evStore,evBin,evIf,Zac,forall_const,z38,tb,reduceAdd,reduceSub,reduceMul,reduceEqDiff,reduceLeDiff,reduceLT,Nat.reduceBEq,Nat.reduceBNe,↓reduceIte,reduceIte,spMs,bestS14,lessS,msA,Zdj,Zek,Zej,zI]
    ·rw [List.take_length] at h
     exact h.2 (hba u hu h.1)
 ·rintro ⟨l,th,w,left⟩ ⟨hB,hl0⟩ hi
  dsimp only [Zcr,reduceAdd] at hB hi ⊢
  have hw:w=[]:=by simpa using hi
  subst hw
  rw [leastL_eq (QJ_done hB)]
  refine Zfq ?_
  refine Zaf ?_
  repeat' first|exact gE|refine gS Zb2 Za4 [] ?_|refine gO Zb2 Za4 [] ?_ ?_|refine gC ?_ ?_<;>intro hb
  refine ⟨_,_,rfl,rfl,fun k hk=>by rw [List.mem_singleton.1 hk];rfl,(by show [30].Nodup;decide),Nat.zero_le _,Zbe ⟨1,resV [.own 0,.bool true],[(0,some (.avs 2 o.length fun j=>msA (deM many (l.getD j 0))))]⟩ [(0,9)] (.inl rfl) rfl (Zal rfl) ?_⟩
  simp only [grR,zE,evp,evx,ev1,evLoad,evStore,evBin,evIf,Zac,forall_const,z38,tb,reduceAdd,reduceSub,reduceMul,reduceEqDiff,reduceLeDiff,reduceLT,Nat.reduceBEq,Nat.reduceBNe,↓reduceIte,reduceIte,spMs,bestS14,lessS,msA,Zdj,Zek,Zej]
 ·rintro ⟨l,th,w,left⟩ _
  dsimp only [Zcr,reduceAdd]
  refine ⟨_,_,rfl,rfl,fun k hk=>by rw [List.mem_singleton.1 hk];rfl,(by show [30].Nodup;decide),Nat.zero_le _,Zbe ⟨0,resV [.cst (.slice none 0 0),.bool false],[]⟩ [] (.inr rfl) rfl (Zal rfl) ?_⟩
  trivial
open Go Pl
noncomputable def spCi : Nat→Option Spec
 |33=>some scaleS
 |35=>some bestS14
 |_=>none
theorem Zb8 : SpOK Tryz.prog spCi:=by
 intro f S h
 unfold spCi at h
 split at h
 ·cases h;exact scale_ok
 ·cases h;exact best_ok14
 ·cases h
def noC : AV:=resV [.cst (.slice none 0 0),.cst (.slice none 0 0),.bool false]
noncomputable def yesC (g:Gm):AV:=resV [.roB (wonL g),.roI (toL g),.bool true]
def Za7 := Hd.mk (And.intro @spCi.eq_1<|And.intro @spCi.eq_2<|And.intro @scaleS.eq_1<|And.intro @bestS14.eq_1<|And.intro @msA.eq_1<|And.intro @mOf.eq_1<|@peta)
set_option maxRecDepth 4000 in
set_option maxHeartbeats 8000000 in
theorem cho_fg {o p:List Int} {x:List (List Int)} (hv:Zau ⟨o,p,x⟩=true) :
  FG Tryz.prog 17 [.agg (.cons (.roI o) (.cons (.roI p) (.cons (.roII x) .nil)))] [] 0 fun g=>g=⟨0,yesC ⟨o,p,x⟩,[]⟩∨g=⟨0,noC,[]⟩:=by
 refine Zc5 htb (fn:=Tryz.f17) (by kernel_rfl) (by kernel_rfl) rfl (Nat.le_of_ble_eq_true rfl) fun hl=>?_
 simp only [lenP,mkL,lim] at hl
 have hV:=validB_iff.1 hv
 obtain ⟨hn,hpl,hxl,hpos⟩:=id hV
 simp only [Gm.n] at hn hpl hxl
 have hS:=scale_sok (p:=p) (by omega)
 have hn12:o.length≤20000:=hn
 repeat' first|exact gE|refine gS Zb8 Za7 [2] ?_|refine gO Zb8 Za7 [2] ?_ ?_|refine gC ?_ ?_<;>intro hb
 refine Za2 ([_,_]) ([_,_,_,_,_]) rfl rfl ?_
 refine gTn Zb8 Za7 ?_ ?_
 ·first|exact oA|skip
 refine gCo ([]) (measures_fg (p:=p) (x:=x) hS hv) Za7 ?_;intro gm gv gr hq m' e' l' h
 rcases hq with hq|hq
 rotate_left
 ·refine gCf hq h Za7 ?_
  refine gT Zb8 Za7 ?_ ?_
  ·first|exact oA|skip
  repeat' first|exact gE|refine gS Zb8 Za7 [] ?_|refine gO Zb8 Za7 [] ?_ ?_|refine gC ?_ ?_<;>intro hb
  ·refine Zab rfl rfl (Zbe ⟨0,noC,[]⟩ [] (.inr rfl) rfl (Zal rfl) ?_)
   trivial
  ·cases hb
 refine gCf hq h Za7 ?_
 refine gT Zb8 Za7 ?_ ?_
 ·first|exact oA|skip
 repeat' first|exact gE|refine gS Zb8 Za7 [3] ?_|refine gO Zb8 Za7 [3] ?_ ?_|refine gC ?_ ?_<;>intro hb
 have hFe:∀ j,deM (mnN p 61) ((Zeh ⟨o,p,x⟩ (odN p 61) (mnN p 61)).getD j 0)=meaF ⟨o,p,x⟩ j:=fun j=>rfl
 simp only [hFe]
 refine Zbb 10 (.ro 2 o.length (fun j=>.agg (.cons (.bool (meaF ⟨o,p,x⟩ j).1) (.cons (.roI (meaF ⟨o,p,x⟩ j).2) .nil)))) ?_
 have hG:=gok hV
 have hML:mlF (mnN p 61) o.length (meaF ⟨o,p,x⟩)=Zeh ⟨o,p,x⟩ (odN p 61) (mnN p 61):=mlF_is Zjq (Zht hG).toLR
 have hok:∀ j,j < o.length→okM (mnN p 61) (meaF ⟨o,p,x⟩ j):=fun j hj=>(mea_fit hG hj).1
 have hto:∀ v,toF ⟨o,p,x⟩ v=if (meaF ⟨o,p,x⟩ v).1=false∧o.getD v 0=0 then bC ⟨o,p,x⟩ (odN p 61) (mnN p 61) (mlF (mnN p 61) o.length (meaF ⟨o,p,x⟩)) v (x.getD v []).length else -1:=fun v=>by rw [hML];rfl
 have hwl:wonL ⟨o,p,x⟩=(List.range o.length).map fun v => !(meaF ⟨o,p,x⟩ v).1:=rfl
 have htl:toL ⟨o,p,x⟩=(List.range o.length).map (toF ⟨o,p,x⟩):=rfl
 generalize toF ⟨o,p,x⟩=T at *
 generalize meaF ⟨o,p,x⟩=F at *
 clear hFe hML
 repeat' first|exact gE|refine gS Zb8 Za7 [4,5] ?_|refine gO Zb8 Za7 [4,5] ?_ ?_|refine gC ?_ ?_<;>intro hb
 ·cases hb
 clear hb
 obtain ⟨wf,hwf⟩:∃ wf:Nat→Bool,wf=fun v => !(F v).1:=⟨_,rfl⟩
 have hwi:∀ v,wf v = !(F v).1:=fun v=>by rw [hwf]
 rw [←hwf] at hwl
 repeat' first|exact gE|refine gS Zb8 Za7 [] ?_|refine gO Zb8 Za7 [] ?_ ?_|refine gC ?_ ?_<;>intro hb
 refine Zag (τ:=Nat) (fun i=>i≤o.length) (fun i=>⟨29,[(30,.int .i64 i),(29,.int .i64 o.length),(28,(.ro 2 o.length fun j=>.agg (.cons (.bool (F j).1) (.cons (.roI (F j).2) .nil)))),(9,.own 23),(8,.own 20),(6,(.ro 2 o.length fun j=>.agg (.cons (.bool (F j).1) (.cons (.roI (F j).2) .nil)))),(5,.own 6),(1,(.rop (.agg (.cons (.roI o) (.cons (.roI p) (.cons (.roII x) .nil))))))],[(20,some (.bools (mix wf (fun _=>false) o.length i))),(23,some (.ints (mix T (fun _=>0) o.length i))),(6,some (.box (.agg (.cons (.roI (odN p 61)) (.cons (.roI (mnN p 61)) .nil)))))],[]⟩) (fun i=>o.length - i) 0 [] ?_ (Nat.zero_le _) ?_
 ·first|exact leZ Za7|refine leA Za7 ?_|refine leB Za7 ?_ ?_
  exact ⟨List.ext_getElem (by simp [mix]) fun j h1 h2=>by simp [mix],List.ext_getElem (by simp [mix]) fun j h1 h2=>by simp [mix]⟩
 intro i hi
 have hm1:(mix wf (fun _=>false) o.length i).length=o.length:=Zfk
 have hm2:(mix T (fun _=>0) o.length i).length=o.length:=Zfk
 have hs1:(mix wf (fun _=>false) o.length i).set i (wf i)=mix wf (fun _=>false) o.length (i+1):=Zfj
 have hs2:(mix T (fun _=>0) o.length i).set i (T i)=mix T (fun _=>0) o.length (i+1):=Zfj
 have hwi1:=hwi i
 have hto1:=hto i
 have hi0:((i:Nat):Int).toNat=i:=Int.toNat_natCast i
 generalize hM1:mix wf (fun _=>false) o.length i=M1 at *
 generalize hM2:mix T (fun _=>0) o.length i=M2 at *
 have hml1:(M1.set i (!(F i).1)).length=o.length:=by rw [List.length_set,hm1]
 have hml2:(M2.set i (-1)).length=o.length:=by rw [List.length_set,hm2]
 have hg1:i < o.length→(M1.set i (!(F i).1)).getD i false = !(F i).1:=fun h=>by rw [Zb5 (by omega),if_pos rfl]
 rw [hwi1] at hs1
 rw [hs1] at hg1 hml1
 repeat' first|exact gE|refine gS Zb8 Za7 [10,13] ?_|refine gO Zb8 Za7 [10,13] ?_ ?_|refine gC ?_ ?_<;>intro hb
 ·rw [hs1]
  generalize hM3:mix wf (fun _=>false) o.length (i+1)=M3 at *
  repeat' first|exact gE|refine gS Zb8 Za7 [11,12] ?_|refine gO Zb8 Za7 [11,12] ?_ ?_|refine gC ?_ ?_<;>intro hb
  ·have hil:i < o.length:=by omega
   have hFt:(F i).1=false:=by
    have h1:=hb.1
    rw [hg1 hil] at h1;simpa using h1
   rw [if_pos ⟨hFt,hb.2⟩] at hto1
   have hvr:(0:Int)≤(i:Int)∧(i:Int) < (o.length:Int):=⟨by omega,by omega⟩
   repeat' first|exact gE|refine gS Zb8 Za7 [12] ?_|refine gO Zb8 Za7 [12] ?_ ?_|refine gC ?_ ?_<;>intro hb
   ·exact Ob.mk ⟨⟨⟨hS,hv,hok,hvr⟩,by omega,by omega⟩,by omega⟩
   repeat' first|exact gE|refine gS Zb8 Za7 [] ?_|refine gO Zb8 Za7 [] ?_ ?_|refine gC ?_ ?_<;>intro hb
   refine back (i+1) [] ?_ (by omega) (by omega)
   first|exact leZ Za7|refine leA Za7 ?_|refine leB Za7 ?_ ?_
   refine ⟨hM3.symm,?_⟩
   rw [←hs2,hto1,List.set_set]
  ·have hil:i < o.length:=by omega
   rw [if_neg (fun h=>by
    rw [hg1 hil,h.1,h.2] at hb
    simp at hb)] at hto1
   repeat' first|exact gE|refine gS Zb8 Za7 [] ?_|refine gO Zb8 Za7 [] ?_ ?_|refine gC ?_ ?_<;>intro hb
   refine back (i+1) [] ?_ (by omega) (by omega)
   first|exact leZ Za7|refine leA Za7 ?_|refine leB Za7 ?_ ?_
   refine ⟨hM3.symm,?_⟩
   rw [←hs2,hto1]
 have hie:i=o.length:=by omega
 subst hie
 have e1:M1=(List.range o.length).map wf:=by rw [←hM1,Zfl]
 have e2:M2=(List.range o.length).map T:=by rw [←hM2,Zfl]
 refine Zbb 20 (.roB M1) ?_
 refine Zbb 23 (.roI M2) ?_
 repeat' first|exact gE|refine gS Zb8 Za7 [] ?_|refine gO Zb8 Za7 [] ?_ ?_|refine gC ?_ ?_<;>intro hb
 refine Zab rfl rfl (Zbe ⟨0,yesC ⟨o,p,x⟩,[]⟩ [] (.inl rfl) rfl ?_ trivial)
 unfold yesC
 rw [hwl,htl,e1,e2]
 exact Zal rfl
open Go Pl
def mslQ (g:Gm) (W C:List Int) (e:Int):Prop:=(e≠0∧W=[]∧C=[])∨(Zau g=true∧(∀ v,v < g.own.length→g.pri.getD v 0≠60)∧e=0∧W=mslW g∧C=mslC g)
theorem Zky {g:Gm} {e:Int} (h:e≠0):∃ W C e',mslQ g W C e'∧(⟨0,resV [.agg (.cons (.roI []) (.cons (.roI []) .nil)),.int .i64 e],[]⟩:GR)=⟨0,resV [.agg (.cons (.roI W) (.cons (.roI C) .nil)),.int .i64 e'],[]⟩:=⟨[],[],e,.inl ⟨h,rfl,rfl⟩,rfl⟩
theorem Zkx {e:Int}:Imp (resV [.agg (.cons (.cst (.slice none 0 0)) (.cons (.cst (.slice none 0 0)) .nil)),.int .i64 e]) (resV [.agg (.cons (.roI []) (.cons (.roI []) .nil)),.int .i64 e]):=Zf3 (Zay (Zel (Zay Zbr (Zay Zbr (Zal rfl)))) (Zal rfl))
noncomputable def spMw : Nat→Option Spec
 |13=>some validS
 |16=>some dualS
 |_=>none
theorem Za5 : SpOK Tryz.prog spMw:=by
 intro f S h
 unfold spMw at h
 split at h
 ·cases h;exact Zgo
 ·cases h;exact dual_ok
 ·cases h
def Zaq := Hd.mk (And.intro @spMw.eq_1<|And.intro @spMw.eq_2<|And.intro @validS.eq_1<|And.intro @dualS.eq_1<|@gmA.eq_1)
set_option maxRecDepth 4000 in
set_option maxHeartbeats 8000000 in
theorem msl_fg {o p:List Int} {x:List (List Int)} :
  FG Tryz.prog 7 [.agg (.cons (.roI o) (.cons (.roI p) (.cons (.roII x) .nil)))] [] 0 fun g=>∃ W C e,mslQ ⟨o,p,x⟩ W C e∧g=⟨0,resV [.agg (.cons (.roI W) (.cons (.roI C) .nil)),.int .i64 e],[]⟩:=by
 refine Zc5 htb (fn:=Tryz.f7) (by kernel_rfl) (by kernel_rfl) rfl (Nat.le_of_ble_eq_true rfl) fun hl=>?_
 simp only [lenP,mkL,lim] at hl
 repeat' first|exact gE|refine gS Za5 Zaq [2,3] ?_|refine gO Za5 Zaq [2,3] ?_ ?_|refine gC ?_ ?_<;>intro hb
 ·repeat' first|exact gE|refine gS Za5 Zaq [] ?_|refine gO Za5 Zaq [] ?_ ?_|refine gC ?_ ?_<;>intro hb
  refine Zab rfl rfl (Zbe ⟨0,resV [.agg (.cons (.roI []) (.cons (.roI []) .nil)),.int .i64 1],[]⟩ [] (Zky (by decide)) rfl Zkx trivial)
 have hv:=hb
 have hV:=validB_iff.1 hv
 have hn:o.length≤20000:=(id hV).1
 clear hb
 by_cases h60:∃ v,v < o.length∧p.getD v 0=60
 ·have ed:Zlf ⟨o,p,x⟩=(⟨[],[],[]⟩,3):=by unfold Zlf;rw [if_pos hv];exact if_pos h60
  repeat' first|exact gE|refine gS Za5 Zaq [4] ?_|refine gO Za5 Zaq [4] ?_ ?_|refine gC ?_ ?_<;>intro hb
  rw [ed]
  repeat' first|exact gE|refine gS Za5 Zaq [5,6] ?_|refine gO Za5 Zaq [5,6] ?_ ?_|refine gC ?_ ?_<;>intro hb
  ·repeat' first|exact gE|refine gS Za5 Zaq [] ?_|refine gO Za5 Zaq [] ?_ ?_|refine gC ?_ ?_<;>intro hb
   refine Zab rfl rfl (Zbe ⟨0,resV [.agg (.cons (.roI []) (.cons (.roI []) .nil)),.int .i64 3],[]⟩ [] (Zky (by decide)) rfl Zkx trivial)
  exact absurd hb (by decide)
 have ed:Zlf ⟨o,p,x⟩=(Zcx ⟨o,p,x⟩,0):=by unfold Zlf;rw [if_pos hv];exact if_neg h60
 have hVd:Zc1 (Zcx ⟨o,p,x⟩):=Zij hV fun v hv h=>h60 ⟨v,hv,h⟩
 have hvd:=Zeq hVd
 repeat' first|exact gE|refine gS Za5 Zaq [4] ?_|refine gO Za5 Zaq [4] ?_ ?_|refine gC ?_ ?_<;>intro hb
 rw [ed]
 repeat' first|exact gE|refine gS Za5 Zaq [5,6] ?_|refine gO Za5 Zaq [5,6] ?_ ?_|refine gC ?_ ?_<;>intro hb
 ·exact absurd hb (by decide)
 clear hb
 have hwl:(wonL ⟨o,p,x⟩).length=o.length:=by simp [wonL]
 have htl:(toL ⟨o,p,x⟩).length=o.length:=by simp [toL]
 have hdn:(Zcx ⟨o,p,x⟩).own.length=o.length:=List.length_map ..
 have htl2:(toL (Zcx ⟨o,p,x⟩)).length=o.length:=by simp [toL,hdn]
 have hwg:∀ v,v < o.length→(wonL ⟨o,p,x⟩).getD v false = !(meaF ⟨o,p,x⟩ v).1:=fun v hv=>by simp [wonL,List.getD_eq_getElem?_getD,hv]
 have htg:∀ v,v < o.length→(toL ⟨o,p,x⟩).getD v 0=toF ⟨o,p,x⟩ v:=fun v hv=>by simp [toL,List.getD_eq_getElem?_getD,hv]
 have htg2:∀ v,v < o.length→(toL (Zcx ⟨o,p,x⟩)).getD v 0=toF (Zcx ⟨o,p,x⟩) v:=fun v hv=>by simp [toL,List.getD_eq_getElem?_getD,hdn,hv]
 have hW:mslW ⟨o,p,x⟩=(List.range o.length).map fun v=>if (wonL ⟨o,p,x⟩).getD v false=true then (0:Int) else 1:=List.map_congr_left fun v hv=>by
  rw [hwg v (List.mem_range.1 hv)]
  cases (meaF ⟨o,p,x⟩ v).1<;>rfl
 have hC:mslC ⟨o,p,x⟩=(List.range o.length).map fun v=>if (wonL ⟨o,p,x⟩).getD v false=true then (toL ⟨o,p,x⟩).getD v 0 else (toL (Zcx ⟨o,p,x⟩)).getD v 0:=List.map_congr_left fun v hv=>by
  rw [hwg v (List.mem_range.1 hv),htg v (List.mem_range.1 hv),htg2 v (List.mem_range.1 hv)]
  cases (meaF ⟨o,p,x⟩ v).1<;>rfl
 clear hwg htg htg2
 refine Za2 ([_]) ([_,_,_,_,_,_,_]) rfl rfl ?_
 refine gTn Za5 Zaq ?_ ?_
 ·first|exact oA|skip
 refine gCo ([]) (cho_fg (p:=p) (x:=x) hv) Zaq ?_;intro gm gv gr hq m' e' l' h
 rcases hq with hq|hq
 rotate_left
 ·unfold noC at hq
  refine gCf hq h Zaq ?_
  refine gT Za5 Zaq ?_ ?_
  ·first|exact oA|skip
  repeat' first|exact gE|refine gS Za5 Zaq [8,9] ?_|refine gO Za5 Zaq [8,9] ?_ ?_|refine gC ?_ ?_<;>intro hb
  ·repeat' first|exact gE|refine gS Za5 Zaq [] ?_|refine gO Za5 Zaq [] ?_ ?_|refine gC ?_ ?_<;>intro hb
   refine Zab rfl rfl (Zbe ⟨0,resV [.agg (.cons (.roI []) (.cons (.roI []) .nil)),.int .i64 3],[]⟩ [] (Zky (by decide)) rfl Zkx trivial)
  ·cases hb
 unfold yesC at hq
 refine gCf hq h Zaq ?_
 refine gT Za5 Zaq ?_ ?_
 ·first|exact oA|skip
 repeat' first|exact gE|refine gS Za5 Zaq [8,9] ?_|refine gO Za5 Zaq [8,9] ?_ ?_|refine gC ?_ ?_<;>intro hb
 ·cases hb
 clear hb
 refine Za2 ([_]) ([_,_,_,_,_,_,_]) rfl rfl ?_
 refine gTn Za5 Zaq ?_ ?_
 ·first|exact oA|skip
 refine gCo ([]) (cho_fg (o:=(Zcx ⟨o,p,x⟩).own) (p:=(Zcx ⟨o,p,x⟩).pri) (x:=(Zcx ⟨o,p,x⟩).nxt) hvd) Zaq ?_;intro gm gv gr hq m' e' l' h
 rcases hq with hq|hq
 rotate_left
 ·unfold noC at hq
  refine gCf hq h Zaq ?_
  refine gT Za5 Zaq ?_ ?_
  ·first|exact oA|skip
  repeat' first|exact gE|refine gS Za5 Zaq [11,12] ?_|refine gO Za5 Zaq [11,12] ?_ ?_|refine gC ?_ ?_<;>intro hb
  ·repeat' first|exact gE|refine gS Za5 Zaq [] ?_|refine gO Za5 Zaq [] ?_ ?_|refine gC ?_ ?_<;>intro hb
   refine Zab rfl rfl (Zbe ⟨0,resV [.agg (.cons (.roI []) (.cons (.roI []) .nil)),.int .i64 3],[]⟩ [] (Zky (by decide)) rfl Zkx trivial)
  ·cases hb
 unfold yesC at hq
 refine gCf hq h Zaq ?_
 refine gT Za5 Zaq ?_ ?_
 ·first|exact oA|skip
 repeat' first|exact gE|refine gS Za5 Zaq [11,12] ?_|refine gO Za5 Zaq [11,12] ?_ ?_|refine gC ?_ ?_<;>intro hb
 ·cases hb
 clear hb
 have hde:toL ⟨(Zcx ⟨o,p,x⟩).own,(Zcx ⟨o,p,x⟩).pri,(Zcx ⟨o,p,x⟩).nxt⟩=toL (Zcx ⟨o,p,x⟩):=rfl
 rw [hde]
 generalize toL (Zcx ⟨o,p,x⟩)=T2 at *
 generalize toL ⟨o,p,x⟩=T1 at *
 generalize wonL ⟨o,p,x⟩=B at *
 repeat' first|exact gE|refine gS Za5 Zaq [] ?_|refine gO Za5 Zaq [] ?_ ?_|refine gC ?_ ?_<;>intro hb
 obtain ⟨wf,hwf⟩:∃ wf:Nat→Int,wf=fun v=>if B.getD v false=true then (0:Int) else 1:=⟨_,rfl⟩
 obtain ⟨cf,hcf⟩:∃ cf:Nat→Int,cf=fun v=>if B.getD v false=true then T1.getD v 0 else T2.getD v 0:=⟨_,rfl⟩
 have hwi:∀ v,wf v=if B.getD v false=true then (0:Int) else 1:=fun v=>by rw [hwf]
 have hci:∀ v,cf v=if B.getD v false=true then T1.getD v 0 else T2.getD v 0:=fun v=>by rw [hcf]
 rw [←hwf] at hW
 rw [←hcf] at hC
 refine Zag (τ:=Nat) (fun i=>i≤o.length) (fun i=>⟨48,[(52,.int .i64 i),(51,.int .i64 B.length),(50,.roB B),(11,.own 43),(10,.roI T2),(7,.roI T1),(6,.roB B),(3,.int .i64 0),(2,.own 1)],[(38,some (.ints (mix wf (fun _=>0) o.length i))),(41,some (.ints (mix cf (fun _=>0) o.length i))),(43,some (.box (.agg (.cons (.own 38) (.cons (.own 41) .nil))))),(1,some (.box (.agg (.cons (.cst (.slice none 0 0)) (.cons (.cst (.slice none 0 0)) .nil)))))],[]⟩) (fun i=>o.length - i) 0 [] ?_ (Nat.zero_le _) ?_
 ·first|exact leZ Zaq|refine leA Zaq ?_|refine leB Zaq ?_ ?_
  exact ⟨List.ext_getElem (by simp [mix,hwl]) fun j h1 h2=>by simp [mix],List.ext_getElem (by simp [mix,hwl]) fun j h1 h2=>by simp [mix]⟩
 intro i hi
 have hm1:(mix wf (fun _=>0) o.length i).length=o.length:=Zfk
 have hm2:(mix cf (fun _=>0) o.length i).length=o.length:=Zfk
 have hs1:(mix wf (fun _=>0) o.length i).set i (wf i)=mix wf (fun _=>0) o.length (i+1):=Zfj
 have hk1:wf i=0→mix wf (fun _=>0) o.length i=mix wf (fun _=>0) o.length (i+1):=fun h=>Zk2 h
 have hs2:(mix cf (fun _=>0) o.length i).set i (cf i)=mix cf (fun _=>0) o.length (i+1):=Zfj
 have hwi1:=hwi i
 have hci1:=hci i
 have hm3:((mix cf (fun _=>0) o.length i).set i (T1.getD i 0)).length=o.length:=by rw [List.length_set,hm2]
 repeat' first|exact gE|refine gS Za5 Zaq [20] ?_|refine gO Za5 Zaq [20] ?_ ?_|refine gC ?_ ?_<;>intro hb
 ·rw [if_neg (by rw [hb];decide)] at hwi1 hci1
  rw [hwi1] at hs1
  rw [hci1] at hs2
  refine back (i+1) [] ?_ (by omega) (by omega)
  first|exact leZ Zaq|refine leA Zaq ?_|refine leB Zaq ?_ ?_
  rw [List.set_set]
  exact ⟨hs1,hs2⟩
 ·rw [if_pos hb] at hwi1 hci1
  rw [hci1] at hs2
  refine back (i+1) [] ?_ (by omega) (by omega)
  first|exact leZ Zaq|refine leA Zaq ?_|refine leB Zaq ?_ ?_
  exact ⟨hk1 hwi1,hs2⟩
 have hie:i=o.length:=by omega
 subst hie
 rw [Zfl,Zfl]
 refine Zbb 38 (.roI ((List.range o.length).map wf)) ?_
 refine Zbb 41 (.roI ((List.range o.length).map cf)) ?_
 repeat' first|exact gE|refine gS Za5 Zaq [] ?_|refine gO Za5 Zaq [] ?_ ?_|refine gC ?_ ?_<;>intro hb
 refine Zab rfl rfl (Zbe ⟨0,resV [.agg (.cons (.roI (mslW ⟨o,p,x⟩)) (.cons (.roI (mslC ⟨o,p,x⟩)) .nil)),.int .i64 0],[]⟩ [] ⟨_,_,_,.inr ⟨hv,fun v hv h=>h60 ⟨v,hv,h⟩,rfl,rfl,rfl⟩,rfl⟩ rfl ?_ trivial)
 rw [hW,hC]
 exact Zal rfl
open Go Pl
def membersS : Spec
 |[.roB l]=>some ⟨True,.fn 74 (.cons (.rop (.roB l)) .nil),none⟩
 |_=>none
set_option maxRecDepth 4000 in
set_option maxHeartbeats 4000000 in
theorem members_ok : Zcn Tryz.prog 55 membersS:=by
 refine Zaw htb (fn:=Tryz.f55) (by kernel_rfl) (by kernel_rfl) rfl (fun args r hS=>?_) (fun args r hS hob hl=>?_)
 ·unfold membersS at hS;split at hS<;>first|(cases hS;done)|(cases hS;exact Nat.le_of_ble_eq_true rfl)
 unfold membersS at hS
 split at hS
 case h_2=>cases hS
 rename_i l
 simp only [Option.some.injEq] at hS
 subst hS
 simp only [lenP,mkL,lim] at hl
 dsimp only at hob
 repeat' first|exact gE|refine gS noSp x0 [] ?_|refine gO noSp x0 [] ?_ ?_|refine gC ?_ ?_<;>intro hb
 refine Zab rfl rfl (Zae rfl ?_ rfl)
 rfl
theorem kp_get' {k:List Bool} {v:Nat} (h:k.getD v false=true):∀ {n:Nat},v < n→(kp k v).length < (kp k n).length∧(kp k n).getD (kp k v).length 0=v
 |0,hv=>absurd hv (Nat.not_lt_zero v)
 |n+1,hv=>by
  rw [Zmt]
  by_cases e:v=n
  ·subst e
   rw [if_pos h]
   refine ⟨by simp,?_⟩
   rw [List.getD_eq_getElem?_getD,List.getElem?_append_right (Nat.le_refl _),Nat.sub_self];rfl
  ·obtain ⟨h1,h2⟩:=kp_get' h (n:=n) (by omega)
   split
   ·refine ⟨by rw [List.length_append,List.length_singleton];omega,?_⟩
    rw [List.getD_eq_getElem?_getD,List.getElem?_append_left h1,←List.getD_eq_getElem?_getD];exact h2
   ·exact ⟨h1,h2⟩
structure MbS (τ:Type) where
 i:Nat
 t:τ
set_option maxRecDepth 4000 in
set_option maxHeartbeats 4000000 in
theorem Zcw (l:List Bool) {τ:Type} (I X:τ→Prop) (ix:τ→Nat) (hI:∀ t,I t→ix t≤(kp l l.length).length) :
  IterV Tryz.prog 74 (.rop (.roB l)) I X (fun t=>(((kp l l.length).getD (ix t) 0:Nat):Int)) (fun t=>ix t < (kp l l.length).length) (fun t t'=>ix t'=ix t+1) (fun t=>ix t=0) (fun t=>ix t=(kp l l.length).length):=by
 intro A hY t0 h0 hi0
 refine Zc5 htb (fn:=Tryz.f74) (by kernel_rfl) (by kernel_rfl) rfl (Nat.le_of_ble_eq_true rfl) fun hl=>?_
 simp only [lenP,mkL,lim] at hl
 have hkl:=Zkb (k:=l) (n:=l.length)
 repeat' first|exact gE|refine gS noSp x0 [] ?_|refine gO noSp x0 [] ?_ ?_|refine gC ?_ ?_<;>intro hb
 refine Zag (τ:=MbS τ) (fun s=>s.i≤l.length∧I s.t∧ix s.t=(kp l s.i).length) (fun s=>⟨5,[(7,.int .i64 s.i),(6,.int .i64 l.length),(5,.roB l),(0,.yld 0)],[(1,some (.sem [0] (A true s.t)))],[]⟩) (fun s=>l.length - s.i) ⟨0,t0⟩ [] ?_ ⟨Nat.zero_le _,h0,hi0⟩ ?_
 ·refine ⟨rfl,?_,?_⟩<;>simp only [zE,evp,evx,ev1,evLoad,evStore,evBin,evIf,Zac,forall_const,z38,tb,reduceAdd,reduceSub,reduceMul,reduceEqDiff,reduceLeDiff,reduceLT,Nat.reduceBEq,Nat.reduceBNe,↓reduceIte,reduceIte,zI]
  intro k hk
  rw [List.mem_singleton.1 hk];rfl
 rintro ⟨i,t⟩ ⟨hi,ht,hit⟩
 dsimp only at hi ht hit ⊢
 have hkn:kp l (i+1)=if l.getD i false=true then kp l i++[i] else kp l i:=Zmt
 have hI1:=hI t ht
 repeat' first|exact gE|refine gS noSp x0 [3] ?_|refine gO noSp x0 [3] ?_ ?_|refine gC ?_ ?_<;>intro hb
 ·have hil:i < l.length:=by omega
  cases hbb:l.getD i false with
  |true =>
   obtain ⟨hk1,hk2⟩:=kp_get' hbb hil
   refine Zfu ?_
   refine Zcz rfl ?_
   dsimp only [noGd]
   refine gTn noSp x0 ?_ ?_
   ·first|exact oA|skip
   refine Zcz rfl ?_
   dsimp only [noGd]
   refine gTn noSp x0 ?_ ?_
   ·first|exact oA|skip
   refine Zd1 rfl rfl rfl rfl ?_
   dsimp only [noGd]
   refine gTn noSp x0 ?_ ?_
   ·first|exact oA|skip
   refine Zd1 rfl rfl rfl rfl ?_
   dsimp only [noGd]
   refine gTn noSp x0 ?_ ?_
   ·first|exact oA|skip
   refine Zd1 rfl rfl rfl rfl ?_
   dsimp only [noGd]
   have hYt:=hY t ht (by show ix t < _;omega)
   dsimp only at hYt
   rw [hit,hk2] at hYt
   refine awpL_yield [0,1] hYt rfl rfl rfl rfl rfl rfl rfl rfl ?_ ?_
   ·simp only [rinR,rhoC,zE,evp,evx,ev1,evLoad,evStore,evBin,evIf,Zac,forall_const,z38,tb,reduceAdd,reduceSub,reduceMul,reduceEqDiff,reduceLeDiff,reduceLT,Nat.reduceBEq,Nat.reduceBNe,↓reduceIte,reduceIte]
    intro k hk
    rw [List.mem_singleton.1 hk];rfl
   intro gm gv gr hq' m' e' l' h
   obtain ⟨b,t',hbt,hbf,hge⟩:=hq'
   simp only [GR.mk.injEq] at hge
   obtain ⟨rfl,rfl,rfl⟩:=hge
   simp only [rhoC,outR,renR,dels,zE,evp,evx,ev1,evLoad,evStore,evBin,evIf,Zac,forall_const,z38,tb,reduceAdd,reduceSub,reduceMul,reduceEqDiff,reduceLeDiff,reduceLT,Nat.reduceBEq,Nat.reduceBNe,↓reduceIte,reduceIte] at h
   obtain ⟨rfl,rfl,rfl⟩:=h
   refine Zaf ?_
   refine Zd1 rfl rfl rfl rfl ?_
   dsimp only [noGd]
   refine gTn noSp x0 ?_ ?_
   ·first|exact oA|skip
   refine Zcz rfl ?_
   dsimp only [noGd]
   refine gTn noSp x0 ?_ ?_
   ·first|exact oA|skip
   refine Zg0 ?_
   cases b with
   |true =>
    obtain ⟨hI2,hix⟩:=hbt rfl
    repeat' first|exact gE|refine gS noSp x0 [] ?_|refine gO noSp x0 [] ?_ ?_|refine gC ?_ ?_<;>intro hb
    ·cases hb
    rw [hbb] at hkn
    refine back ⟨i+1,t'⟩ [] ?_ ⟨by dsimp only;omega,hI2,?_⟩ (by dsimp only;omega)
    ·refine ⟨rfl,?_,?_⟩<;>simp only [zE,evp,evx,ev1,evLoad,evStore,evBin,evIf,Zac,forall_const,z38,tb,reduceAdd,reduceSub,reduceMul,reduceEqDiff,reduceLeDiff,reduceLT,Nat.reduceBEq,Nat.reduceBNe,↓reduceIte,reduceIte,zI]
     intro k hk
     rw [List.mem_singleton.1 hk];rfl
    ·dsimp only
     have:(kp l (i+1)).length=(kp l i).length+1:=by rw [hkn,if_pos rfl,List.length_append];rfl
     have hix:ix t'=(kp l i).length+1:=hix
     omega
   |false =>
    repeat' first|exact gE|refine gS noSp x0 [] ?_|refine gO noSp x0 [] ?_ ?_|refine gC ?_ ?_<;>intro hb
    ·refine Zab rfl rfl (Zbe ⟨2,resV [],[(1,some (.sem [0] (A false t')))]⟩ [] ⟨false,t',(fun h=>by cases h),hbf,rfl⟩ rfl (Zal rfl) ?_)
     simp only [grR,zE,evp,evx,ev1,evLoad,evStore,evBin,evIf,Zac,forall_const,z38,tb,reduceAdd,reduceSub,reduceMul,reduceEqDiff,reduceLeDiff,reduceLT,Nat.reduceBEq,Nat.reduceBNe,↓reduceIte,reduceIte]
     intro k hk
     rw [List.mem_singleton.1 hk];rfl
    ·cases hb
  |false =>
   rw [hbb] at hkn
   refine Zfu ?_
   refine Zcz rfl ?_
   dsimp only [noGd]
   refine gTn noSp x0 ?_ ?_
   ·first|exact oA|skip
   refine Zcz rfl ?_
   dsimp only [noGd]
   refine gTn noSp x0 ?_ ?_
   ·first|exact oA|skip
   refine Zez rfl rfl rfl rfl rfl ?_
   refine Zez rfl rfl rfl rfl rfl ?_
   refine Zez rfl rfl rfl rfl rfl ?_
   refine Zez rfl rfl rfl rfl rfl ?_
   refine Zcz rfl ?_
   dsimp only [noGd,putE]
   refine gTn noSp x0 ?_ ?_
   ·first|exact oA|skip
   refine Zg0 ?_
   repeat' first|exact gE|refine gS noSp x0 [] ?_|refine gO noSp x0 [] ?_ ?_|refine gC ?_ ?_<;>intro hb
   ·cases hb
   refine back ⟨i+1,t⟩ [] ?_ ⟨by dsimp only;omega,ht,?_⟩ (by dsimp only;omega)
   ·refine ⟨rfl,?_,?_⟩<;>simp only [zE,evp,evx,ev1,evLoad,evStore,evBin,evIf,Zac,forall_const,z38,tb,reduceAdd,reduceSub,reduceMul,reduceEqDiff,reduceLeDiff,reduceLT,Nat.reduceBEq,Nat.reduceBNe,↓reduceIte,reduceIte,zI]
    intro k hk
    rw [List.mem_singleton.1 hk];rfl
   ·dsimp only
    rw [hit,hkn];rfl
 ·have hil:i=l.length:=by omega
  subst hil
  refine Zc0 rfl rfl (Zbe ⟨2,resV [],[(1,some (.sem [0] (A true t)))]⟩ [] ⟨true,t,(fun _=>⟨ht,hit⟩),(fun h=>by cases h),rfl⟩ rfl (Zal rfl) ?_)
  simp only [grR,zE,evp,evx,ev1,evLoad,evStore,evBin,evIf,Zac,forall_const,z38,tb,reduceAdd,reduceSub,reduceMul,reduceEqDiff,reduceLeDiff,reduceLT,Nat.reduceBEq,Nat.reduceBNe,↓reduceIte,reduceIte]
  intro k hk
  rw [List.mem_singleton.1 hk];rfl
end Go.Proofs.YtjcmlflljibikaaGreatDoor.Cal
