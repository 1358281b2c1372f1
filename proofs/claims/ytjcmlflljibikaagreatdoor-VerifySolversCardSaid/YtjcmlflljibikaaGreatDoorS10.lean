/- Own texts, merged. -/
import Derived.RecoverIn
import Derived.RangeFuncLeaves
import Derived.Test.YtjcmlflljibikaaGreatDoorS9
set_option linter.unusedVariables false
set_option linter.unusedSimpArgs false
open Nat (reduceAdd reduceSub reduceMul reduceEqDiff reduceLeDiff reduceLT)
namespace Go.Proofs.YtjcmlflljibikaaGreatDoor.Cal
open Go
def IterV (P:Program) (gf:Nat) (c:AV) {τ:Type} (I X:τ→Prop) (hd:τ→Int) (go:τ→Prop) (nx:τ→τ→Prop) (st fin:τ→Prop):Prop :=
 ∀ (A:Bool→τ→SemA)
  (hY:∀ t,I t→go t→Zoe P [.int .i64 (hd t)] [(1,some (.sem [0] (A true t)))] 2
   (fun g=>∃ b t',(b=true→I t'∧nx t t')∧(b=false→X t')∧g=⟨2,.bool b,[(1,some (.sem [0] (A b t')))]⟩))
  (t0:τ) (h0:I t0) (hi0:st t0),
  FG P gf [.yld 0,c] [(1,some (.sem [0] (A true t0)))] 2
   (fun g=>∃ b t',(b=true→I t'∧fin t')∧(b=false→X t')∧g=⟨2,resV [],[(1,some (.sem [0] (A b t')))]⟩)
def Zia (w:World) (Z:Nat→Prop) (ν:Nat→Value) (m lp D:Nat) (rc:Loop) (S:List (Nat × Option Blk)):SemA:=fun vs Zs ws F =>
 vs=[.map (some lp)]∧(∀ y,Z y→Zs y∧ws.heap[y]? = w.heap[y]?)∧F lp∧F D∧ws.heap[lp]? = some (.loop rc)∧ws.heap[D]? = some (.deferred (some [])) ∧
  ∃ (ν':Nat→Value) (G:Nat→Nat→Prop),(∀ k,(ν' k).oneCell'=true)∧(∀ k,k < m→ν' k=ν k)∧∀ k b,lkr S k=some b→sat Zs ws ν' (ν' k) (G k) b∧(∀ x,G k x→F x∧x≠lp∧x≠D)∧∀ k' b',k≠k'→lkr S k'=some b'→∀ x,G k x→¬ G k' x
section
variable {w:World} {Z:Nat→Prop} {ν:Nat→Value} {m lp D:Nat} {rc:Loop} {S:List (Nat × Option Blk)}
theorem ASemV_mono {vs:List Value} {Zs Z':Nat→Prop} {ws w':World} {F:Nat→Prop} (h:Zia w Z ν m lp D rc S vs Zs ws F) (hZ:∀ y,Zs y→Z' y) (hw:∀ y,Zs y∨F y→w'.heap[y]? = ws.heap[y]?):Zia w Z ν m lp D rc S vs Z' w' F:=by
 obtain ⟨h1,h2,h3,h4,h5,h6,ν',G,h7,h8,h9⟩:=h
 refine ⟨h1,fun y hy=>⟨hZ y (h2 y hy).1,(hw y (.inl (h2 y hy).1)).trans (h2 y hy).2⟩,h3,h4,(hw lp (.inr h3)).trans h5,(hw D (.inr h4)).trans h6,ν',G,h7,h8,fun k b hk=>?_⟩
 obtain ⟨g1,g2,g3⟩:=h9 k b hk
 exact ⟨Zbl hZ (fun y hy=>hw y (.inl hy)) (fun y hy=>hw y (.inr (g2 y hy).1)) g1,g2,g3⟩
theorem sat_ASemV {νc:Nat→Value} {a:Nat} {Zs:Nat→Prop} {ws:World} {F:Nat→Prop} {x:Value} (h:Zia w Z ν m lp D rc S [νc a] Zs ws F):sat Zs ws νc x F (.sem [a] (Zia w Z ν m lp D rc S)) :=
 fun Z' w' h1 h2=>ASemV_mono h h1 h2
theorem ASemV_of {νc:Nat→Value} {a:Nat} {Zs:Nat→Prop} {ws:World} {F:Nat→Prop} {x:Value} (h:sat Zs ws νc x F (.sem [a] (Zia w Z ν m lp D rc S))):Zia w Z ν m lp D rc S [νc a] Zs ws F :=
 h Zs ws (fun _ h=>h) (fun _ _=>rfl)
end
section
variable {P:Program} {ro:Option Nat} {N κ:Nat} {tb:Nat→Option TI}
inductive Lv where
 |ret
 |exit (id:Nat)
def Lv.c : Lv→Code
 |.ret=>.ret
 |.exit id=>.exit id
def Lv.e : Lv→Exit
 |.ret=>.ret
 |.exit id=>.exit id
def roundV (κ:Nat) {τ:Type} (I X:τ→Prop) (nx:τ→τ→Prop) (lv:Lv) (S:τ→List (Nat × Option Blk)) (M:Nat) (t:τ) (e:Exit) (s:St):Prop :=
 ∃ (cs:CS) (t':τ) (ρ:List (Nat × Nat)),s=cs.st∧LeC κ cs ρ ⟨M,[],S t',[]⟩∧((e=.normal∧I t'∧nx t t')∨(e=lv.e∧X t'))
def Zc4 (rc:Loop) (lv:Lv):Bool→Loop
 |true=>rc
 |false=>{ rc with state:=.done,pending:=some lv.c }
theorem round_yieldsV {τ:Type} {I X:τ→Prop} {hd:τ→Int} {go:τ→Prop} {nx:τ→τ→Prop} {lv:Lv} {S:τ→List (Nat × Option Blk)} {M m p fn lp D:Nat} {env:List (Nat × AV)} {assign body:Code} {w:World} {Z:Nat→Prop} {ν:Nat→Value} {a:Act} {rc:Loop}
  (hrc:rc={ state:=.ready,pending:=none,fn,tmps:=a.tmps,params := #[p],assign,body,defers:=D }) (hp:p < N) (hsz:a.tmps.size=N) (hmM:m≤M) (hlD:lp≠D)
  (henv:∀ s,men (ltK m) (lke env s)=true∧R Z w (lke env s) ν true [a.tmps.getD s undef])
  (hS:∀ t k b,I t∨X t→lkr (S t) k=some b→k < M∧menB (ltK M) b)
  (round:∀ t,I t→go t→awp P (some lp) N m assign (CS.st ⟨M,(p,.int .i64 (hd t)) :: env,S t,[]⟩) (fun e s=>e=.normal∧awp P (some lp) N m body s (roundV m I X nx lv S M t)))
  (t:τ) (ht:I t) (hi:go t) :
  Zoe P [.int .i64 (hd t)] [(1,some (.sem [0] (Zia w Z ν m lp D (Zc4 rc lv true) (S t))))] 2
   (fun g=>∃ b t',(b=true→I t'∧nx t t')∧(b=false→X t')∧g=⟨2,.bool b,[(1,some (.sem [0] (Zia w Z ν m lp D (Zc4 rc lv b) (S t'))))]⟩):=by
 intro n K1 Z1 ν1 w1 vals l hone hvals hG hzk hkl hl
 obtain ⟨F1,hF1⟩:=hG
 obtain ⟨_,_,s1,s2,s3⟩:=hF1 1 (.sem [0] (Zia w Z ν m lp D (Zc4 rc lv true) (S t))) rfl
 obtain ⟨a1,a2,a3,a4,a5,a6,ν',G,a7,a8,a9⟩:=ASemV_of s1
 have e0:ν1 0=.map (some lp):=by injection a1
 obtain rfl:l=lp:=by rw [hl] at e0;injection e0 with h;injection h
 obtain ⟨v,vs,hvv,r1,r2⟩:=hvals
 have r1:=one1 r1
 have r2:vs=[]:=r2
 subst r1 r2
 have hvals2:vals = #[.int .i64 (hd t)]:=by rw [←Array.toList_inj,hvv]
 subst hrc
 have a5:w1.heap[l]? = some (.loop { state:=.ready,pending:=none,fn:=fn,tmps:=a.tmps,params := #[p],assign:=assign,body:=body,defers:=D }):=a5
 have hy:=run_yield (P:=P) (args:=vals) a5 (by rw [hvals2];rfl)
 have htm:∀ (T:Array Value) (v:Value),((#[p]:Array Tmp).zip #[v]).foldl (fun tmps (x:Tmp × Value)=>tmps.setIfInBounds x.1 x.2) T=T.setIfInBounds p v:=fun T v=>by simp
 refine ⟨_,_,_,_,hy,roundIn_of_wpIn trivial ?_⟩
 have htm2:=htm a.tmps (.int .i64 (hd t))
 rw [←hvals2] at htm2
 have hlz:¬ Z1 l:=fun h=>(s2 l a3).1 (hzk l h)
 have hDz:¬ Z1 D:=fun h=>(s2 D a4).1 (hzk D h)
 -- the round's own view
 have hgood:Good (fun b=>K1 b∨b=l∨b=D) Z1 N w1 ν' (CS.st ⟨M,(p,.int .i64 (hd t)) :: env,S t,[]⟩) { tmps:=a.tmps.setIfInBounds p (.int .i64 (hd t)),defers:=[] }:=by
  have hνm:∀ k,ltK m k=true→ν' k=ν k:=fun k hk=>by
   rw [ltK,Nat.blt_eq] at hk
   exact a8 k hk
  refine ⟨by simp [hsz],a7,fun s=>?_,?_,fun b hb=>.inl (hzk b hb),fun b hb=>?_,rfl,fun k hk=>by cases hk⟩
  ·show men (ltK M) (lke ((p,_) :: env) s)=true∧R Z1 w1 (lke ((p,_) :: env) s) _ true _
   rw [Ze7]
   by_cases hs:s=p
   ·subst hs
    simp only [if_true]
    refine ⟨rfl,?_⟩
    show [_]=[_]
    simp [Array.getD_eq_getD_getElem?,hsz,hp]
   ·simp only [if_neg hs]
    obtain ⟨g1,g2⟩:=henv s
    refine ⟨Zdt (fun k hk=>by simp only [ltK,Nat.blt_eq] at hk ⊢;omega) g1,?_⟩
    have:(a.tmps.setIfInBounds p (.int .i64 (hd t))).getD s undef=a.tmps.getD s undef:=by
     simp [Array.getD_eq_getD_getElem?,Array.getElem?_setIfInBounds,Ne.symm hs]
    show R Z1 w1 (lke env s) _ true [(a.tmps.setIfInBounds p (.int .i64 (hd t))).getD s undef]
    rw [this]
    exact R_nu hνm g1 (Zbc (fun y hy=>(a2 y hy).1) (fun y hy=>(a2 y hy).2) g2)
  ·refine ⟨G,fun k b hk=>?_⟩
   obtain ⟨b1,b2⟩:=hS t k b (.inl ht) hk
   obtain ⟨c1,c2,c3⟩:=a9 k b hk
   refine ⟨by show Nat.blt k M=true;rw [Nat.blt_eq];exact b1,b2,c1,fun x hx=>?_,fun k' b' hne hk'=>c3 k' b' hne hk'⟩
   obtain ⟨d1,d2,d3⟩:=c2 x hx
   obtain ⟨f1,f2⟩:=s2 x d1
   exact ⟨fun h=>h.elim f1 fun h=>h.elim d2 d3,f2⟩
  ·rcases hb with h|rfl|rfl
   ·exact hkl b h
   ·exact (Array.getElem?_eq_some_iff.1 a5).1
   ·exact (Array.getElem?_eq_some_iff.1 a6).1
 have hasg:=round t ht hi n _ Z1 _ w1 _ hgood
 have hasg2:assign.wpIn ((FF none).inRound l) n P _ { tmps:=a.tmps.setIfInBounds p (.int .i64 (hd t)),defers:=[] } w1:=hasg
 rw [←htm2] at hasg2
 refine wpIn_mono hasg2 ?_
 rintro e a2' w2 ⟨Z2,ν2,σ2,st2,nu2,good2,rfl,hbody⟩
 -- the round begins
 have hl2:w2.heap[l]? = _:=(st2.ext.block l (.inr (.inl rfl))).trans a5
 have hZl:∀ {Zx:Nat→Prop} {wx:World},Step (fun b=>K1 b∨b=l∨b=D) Z1 w1 Zx wx→¬ Zx l∧¬ Zx D:=fun h =>
  ⟨fun hz=>(h.new l hz).elim hlz fun h=>h (.inr (.inl rfl)),fun hz=>(h.new D hz).elim hDz fun h=>h (.inr (.inr rfl))⟩
 refine ⟨_,run_beginRound hl2 rfl,?_⟩
 have good3:=good2.put (r:=l) (o:=.loop { state:=.busy,pending:=none,fn:=fn,tmps:=a.tmps,params := #[p],assign:=assign,body:=body,defers:=D }) (.inl (.inr (.inl rfl))) (hZl st2).1
 have hb:=hbody n _ _ _ _ _ good3
 refine wpIn_mono (show body.wpIn ((FF none).inRound l) n P _ a2' _ from hb) ?_
 rintro e a3' w3 ⟨Z3,ν3,σ3,st3,nu3,good4,cs,t',ρ,rfl,hle,hfate⟩
 have hKl:∀ b,(K1 b∨b=l∨b=D)→un (fun b=>K1 b∨b=l∨b=D) Z2 b:=fun b h=>.inl h
 have hl3:w3.heap[l]? = some (.loop { state:=.busy,pending:=none,fn:=fn,tmps:=a.tmps,params := #[p],assign:=assign,body:=body,defers:=D }) :=
  (st3.ext.block l (hKl l (.inr (.inl rfl)))).trans (World.putObj_heap_same (Array.getElem?_eq_some_iff.1 hl2).1)
 have hD3:w3.heap[D]? = some (.deferred (some [])) :=
  (st3.ext.block D (hKl D (.inr (.inr rfl)))).trans ((World.putObj_heap_other (Ne.symm hlD)).trans ((st2.ext.block D (.inr (.inr rfl))).trans a6))
 -- which end
 obtain ⟨bb,hbb⟩:∃ bb:Bool,(bb=true→e=.normal∧I t'∧nx t t')∧(bb=false→e=lv.e∧X t'):=by
  rcases hfate with h|h
  ·exact ⟨true,(fun _=>h),fun h=>by cases h⟩
  ·exact ⟨false,(fun h=>by cases h),fun _=>h⟩
 have hIX:I t'∨X t':=by
  rcases hfate with h|h
  ·exact .inl h.2.1
  ·exact .inr h.2
 suffices hres:∀ (o:Loop),o=Zc4 { state:=.ready,pending:=none,fn:=fn,tmps:=a.tmps,params := #[p],assign:=assign,body:=body,defers:=D } lv bb →
   ∃ (y:Value) (Z':Nat→Prop) (νr:Nat→Value) (g:GR),Ending.returned (Value.bool bb)=.returned y∧Step K1 Z1 w1 Z' (w3.putObj l (.loop o))∧(∀ k,(νr k).oneCell'=true)∧(∀ k,k < 2→νr k=ν1 k)∧R Z' (w3.putObj l (.loop o)) g.val νr true [y]∧men (ltK g.m) g.val=true∧GoodRs (un K1 Z') Z' (w3.putObj l (.loop o)) νr (ltK g.m) (lkr g.rs)∧(∀ b,Z' b→b < (w3.putObj l (.loop o)).heap.size) ∧
    (∃ b t'',(b=true→I t''∧nx t t'')∧(b=false→X t'')∧g=⟨2,.bool b,[(1,some (.sem [0] (Zia w Z ν m l D (Zc4 { state:=.ready,pending:=none,fn:=fn,tmps:=a.tmps,params := #[p],assign:=assign,body:=body,defers:=D } lv b) (S t''))))]⟩)∧2≤g.m by
  cases bb with
  |true =>
   obtain ⟨rfl,hI,hN⟩:=hbb.1 rfl
   exact ⟨_,_,run_endRound none hl3,hres _ rfl⟩
  |false =>
   obtain ⟨rfl,hX⟩:=hbb.2 rfl
   cases lv with
   |ret=>exact ⟨_,_,run_endRound (some .ret) hl3,hres _ rfl⟩
   |exit id=>exact ⟨_,_,run_endRound (some (.exit id)) hl3,hres _ rfl⟩
 intro o ho
 have hle2:=Good.le good4 (Zms ρ hle.chk hle.env hle.rs)
 obtain ⟨H,hH⟩:=hle2.rs
 have hid:=(Zms ρ hle.chk hle.env hle.rs).id
 -- the step from the round's begin to its end
 have hK1:∀ b,K1 b→b≠l∧b≠D:=fun b hb=>⟨fun e=>(s2 l a3).1 (e▸hb),fun e=>(s2 D a4).1 (e▸hb)⟩
 have hstep:Step K1 Z1 w1 Z3 (w3.putObj l (.loop o)):=by
  refine ⟨⟨st3.ext.os.trans st2.ext.os,st3.ext.tape.trans st2.ext.tape,st3.ext.output.trans st2.ext.output,?_,fun b hb=>?_⟩,fun b hb=>st3.le b (st2.le b hb),fun b hb=>?_⟩
  ·have h1:=st2.ext.size
   have h2:=st3.ext.size
   rw [World.putObj_size] at h2 ⊢
   omega
  ·exact (World.putObj_heap_other (hK1 b hb).1).trans ((st3.ext.block b (hKl b (.inl hb))).trans ((World.putObj_heap_other (hK1 b hb).1).trans (st2.ext.block b (.inl hb))))
  ·rcases st3.new b hb with h|h
   ·rcases st2.new b h with h|h
    ·exact .inl h
    ·exact .inr fun hk=>h (.inl hk)
   ·exact .inr fun hk=>h (.inl (.inl hk))
 have hz3:¬ Z3 l∧¬ Z3 D:=by
  refine ⟨fun h=>?_,fun h=>?_⟩
  ·rcases st3.new l h with h|h
   ·exact (hZl st2).1 h
   ·exact h (hKl l (.inr (.inl rfl)))
  ·rcases st3.new D h with h|h
   ·exact (hZl st2).2 h
   ·exact h (hKl D (.inr (.inr rfl)))
 have n5:∀ k,k < m→ν3 (rhoL ρ k)=ν k:=fun k hk=>by
  rw [hid k hk,nu3 k hk,nu2 k hk]
  exact a8 k hk
 have hout:∀ k b,lkr (S t') k=some b→∀ x,H k x→¬ un K1 Z3 x∧x < w3.heap.size∧x≠l∧x≠D:=fun k b hk x hx=>by
  obtain ⟨_,_,_,h2,_⟩:=hH k b hk
  obtain ⟨h3,h4⟩:=h2 x hx
  refine ⟨fun h=>h3 ?_,h4,fun e=>h3 ?_,fun e=>h3 ?_⟩
  ·rcases h with h|h
   ·exact .inl (hKl x (.inl h))
   ·exact .inr h
  ·exact .inl (hKl x (.inr (.inl e)))
  ·exact .inl (hKl x (.inr (.inr e)))
 have hput:∀ x,x≠l→(w3.putObj l (.loop o)).heap[x]? = w3.heap[x]?:=fun x hx=>World.putObj_heap_other hx
 have hZput:∀ x,Z3 x→(w3.putObj l (.loop o)).heap[x]? = w3.heap[x]?:=fun x hx=>hput x (fun e=>hz3.1 (e▸hx))
 have hlt3:l < w3.heap.size:=(Array.getElem?_eq_some_iff.1 hl3).1
 have hDt3:D < w3.heap.size:=(Array.getElem?_eq_some_iff.1 hD3).1
 refine ⟨.bool bb,Z3,fun k=>if k < 2 then ν1 k else .nilFunc,⟨2,.bool bb,[(1,some (.sem [0] (Zia w Z ν m l D (Zc4 _ lv bb) (S t'))))]⟩,rfl,hstep,fun k=>?_,fun k hk=>if_pos hk,rfl,rfl,?_,fun b hb=>?_,⟨bb,t',fun h=>(hbb.1 h).2,fun h=>(hbb.2 h).2,rfl⟩,Nat.le_refl _⟩
 ·dsimp only
  split
  ·exact hone k
  ·rfl
 ·refine ⟨fun k=>fun x=>x=l∨x=D∨∃ k b,lkr (S t') k=some b∧H k x,fun k b hk=>?_⟩
  have hc:k=1∧b=.sem [0] (Zia w Z ν m l D (Zc4 { state:=.ready,pending:=none,fn:=fn,tmps:=a.tmps,params := #[p],assign:=assign,body:=body,defers:=D } lv bb) (S t')):=by
   rw [Zai] at hk
   by_cases h1:k=1
   ·rw [if_pos h1] at hk;exact ⟨h1,(Option.some.inj hk).symm⟩
   ·rw [if_neg h1] at hk;cases hk
  obtain ⟨rfl,rfl⟩:=hc
  have hlD1:(¬ un K1 Z3 l∧l < w3.heap.size)∧(¬ un K1 Z3 D∧D < w3.heap.size):=by
   refine ⟨⟨?_,hlt3⟩,⟨?_,hDt3⟩⟩
   ·rintro (h|h)
    ·exact (hK1 l h).1 rfl
    ·exact hz3.1 h
   ·rintro (h|h)
    ·exact (hK1 D h).2 rfl
    ·exact hz3.2 h
  refine ⟨rfl,?_,?_,fun x hx=>?_,fun k' b' hne hk' x hx hx'=>?_⟩
  ·intro j hj
   simp only [List.mem_cons,List.not_mem_nil,or_false] at hj
   rw [hj];rfl
  ·refine sat_ASemV (νc:=fun k=>if k < 2 then ν1 k else .nilFunc) ⟨?_,fun y hy=>⟨?_,?_⟩,.inl rfl,.inr (.inl rfl),?_,(hput D (Ne.symm hlD)).trans hD3,fun k=>ν3 (rhoL ρ k),H,hle2.one,n5,fun k b hk=>?_⟩
   ·show [ν1 0]=_
    exact a1
   ·exact hstep.le y (a2 y hy).1
   ·exact (hstep.ext.block y (hzk y (a2 y hy).1)).trans (a2 y hy).2
   ·rw [←ho];exact World.putObj_heap_same hlt3
   ·obtain ⟨_,_,g1,g2,g3⟩:=hH k b hk
    exact ⟨Zbl (fun _ h=>h) hZput (fun x hx=>hput x (hout k b hk x hx).2.2.1) g1,fun x hx=>⟨.inr (.inr ⟨k,b,hk,hx⟩),(hout k b hk x hx).2.2⟩,fun k' b' hne hk'=>g3 k' b' hne hk'⟩
  ·rw [World.putObj_size]
   rcases hx with rfl|rfl|⟨k2,b2,h2,h⟩
   ·exact hlD1.1
   ·exact hlD1.2
   ·exact ⟨(hout k2 b2 h2 x h).1,(hout k2 b2 h2 x h).2.1⟩
  ·rw [Zai] at hk'
   by_cases h1:k'=1
   ·exact hne h1.symm
   ·rw [if_neg h1] at hk';cases hk'
 ·rw [World.putObj_size]
  exact hle2.kl b (hle2.zk b hb)
theorem cases1 {k:Nat} {b b1:Blk} (hk:lkr [(1,some b1)] k=some b):k=1∧b=b1:=by
 rw [Zai] at hk
 by_cases h1:k=1
 ·rw [if_pos h1] at hk;exact ⟨h1,(Option.some.inj hk).symm⟩
 ·rw [if_neg h1] at hk;cases hk
theorem Zeb {gOp:Operand} {p gf m M:Nat} {c:AV} {assign body:Code} {env:List (Nat × AV)} {Q:Exit→St→Prop} {τ:Type} (I X:τ→Prop) (hd:τ→Int) (go:τ→Prop) (nx:τ→τ→Prop) (st fin:τ→Prop) (lv:Lv) (S:τ→List (Nat × Option Blk)) (ms:List Nat) (t0:τ)
  (hIter:IterV P gf c I X hd go nx st fin) (h0:I t0) (hi0:st t0) (hu:men noK c=true)
  (hgo:opv (lke env) gOp=.fn gf (.cons c .nil)) (hp:Nat.blt p N=true) (hmM:Nat.ble m M=true) (hκ:Nat.ble κ m=true) (hmen:menE m env=true) (hms:∀ k,k∈ms→Nat.blt k m=true)
  (hS:∀ t k b,I t∨X t→lkr (S t) k=some b→k < M∧menB (ltK M) b)
  (round:∀ lp t,I t→go t→awp P (some lp) N m assign (CS.st ⟨M,(p,.int .i64 (hd t)) :: env,S t,[]⟩) (fun e s=>e=.normal∧awp P (some lp) N m body s (roundV m I X nx lv S M t)))
  (next:∀ t,I t→fin t→Q .normal (CS.st ⟨M+1,env,(M,some .dfr) :: S t,M :: ms⟩))
  (left:∀ t,X t→Q lv.e (CS.st ⟨M+1,env,(M,some .dfr) :: S t,M :: ms⟩)) :
  awp P none N κ (.rangeFunc gOp #[p] assign body) (CS.st ⟨M,env,S t0,ms⟩) Q:=by
 rw [Nat.blt_eq] at hp
 have hmM:=Nat.le_of_ble_eq_true hmM
 have hκ:=Nat.le_of_ble_eq_true hκ
 intro n K Z ν w a hg
 refine wpIn_rangeFunc ?_
 intro fn _
 obtain ⟨rc,hrc⟩:∃ rc:Loop,rc={ state:=.ready,pending:=none,fn,tmps:=a.tmps,params := #[p],assign,body,defers:=w.heap.size }:=⟨_,rfl⟩
 obtain ⟨W1,hW1⟩:∃ W1,(w.alloc (.deferred (some []))).alloc (.loop rc)=W1:=⟨_,rfl⟩
 have hs1:W1.heap.size=w.heap.size+2:=by rw [←hW1,World.size_alloc,World.size_alloc]
 have hL1:W1.heap[w.heap.size+1]? = some (.loop rc):=by
  rw [←hW1];have:=World.alloc_heap_new (w.alloc (.deferred (some []))) (.loop rc);rwa [World.size_alloc] at this
 have hD1:W1.heap[w.heap.size]? = some (.deferred (some [])):=by
  rw [←hW1];exact (Zd9 _ _ _ (by rw [World.size_alloc];omega)).trans (World.alloc_heap_new w _)
 have hold:∀ b,b < w.heap.size→W1.heap[b]? = w.heap[b]?:=fun b hb=>by
  rw [←hW1];exact (Zd9 _ _ _ (by rw [World.size_alloc];omega)).trans (Zd9 _ _ _ hb)
 have hos:W1.os=w.os∧W1.tape=w.tape∧W1.output=w.output:=by rw [←hW1];exact ⟨rfl,rfl,rfl⟩
 have hev:=Zih hg gOp
 rw [show opv (CS.st ⟨M,env,S t0,ms⟩).env gOp=_ from hgo] at hev
 obtain ⟨cv,ecv,rcv⟩:=hev
 have ecv:=one1 ecv
 obtain ⟨vb,vs,hcv,rb,rn⟩:=rcv
 have rn:vs=[]:=rn
 subst rn hcv
 have henv:∀ s,men (ltK m) (lke env s)=true∧R Z w (lke env s) ν true [a.tmps.getD s undef]:=fun s=>⟨Zk4 hmen s,(hg.env s).2⟩
 have hds:a.defers=ms.flatMap (fun k=>Ze5 (ν k)):=hg.ds
 have hFG:=hIter (fun b t=>Zia w Z ν m (w.heap.size+1) w.heap.size (Zc4 rc lv b) (S t))
  (fun t ht hi=>round_yieldsV hrc hp hg.size (by omega) (by omega) henv (fun t k b ht hk=>hS t k b ht hk) (fun t ht hi=>round _ t ht hi) t ht hi) t0 h0 hi0
 obtain ⟨⟨fn',hfn',hname,hbody⟩,hcall⟩:=hFG
 have eg:∀ args w,(callFunc gf args).run P w=.ok (.enter gf args) w:=by
  intro args w
  simp [callFunc,hfn',Sem.run_bind,Result.andThen,Sem.run,program]
  have hname' : ¬ fn'.name = "runtime.NumGoroutine" := by simpa using hname
  cases hb:fn'.body with
  |none=>rw [hb] at hbody;cases hbody
  |some c=>simp [hname',hb,Sem.run]
 obtain ⟨Ft,hF⟩:=id hg.rs
 have hKz:∀ b,Z b→b < w.heap.size:=fun b hb=>hg.kl b (hg.zk b hb)
 have hsat:∀ k b,lkr (S t0) k=some b→sat Z W1 ν (ν k) (Ft k) b:=fun k b hk=>by
  obtain ⟨_,_,h3,h4,_⟩:=hF k b hk
  exact Zbl (fun _ h=>h) (fun x hx=>hold x (hKz x hx)) (fun x hx=>hold x (h4 x hx).2) h3
 have hdis:∀ x,∀ k b,lkr (S t0) k=some b→Ft k x→¬ K x∧x < w.heap.size:=fun x k b hk hx=>(hF k b hk).2.2.2.1 x hx
 have hcl:=hcall K Z (fun j=>if j=0 then .map (some (w.heap.size+1)) else .nilFunc) W1 #[.func (.yield (w.heap.size+1)) #[] #[],vb]
  (fun k=>by
   split<;>rfl)
  ⟨_,_,rfl,⟨w.heap.size+1,rfl,rfl⟩,_,_,rfl,Zdi hu (Zbc (fun _ h=>h) (fun y hy=>hold y (hKz y hy)) rb),rfl⟩ (by show (men (ltK 2) (.yld 0) && (men (ltK 2) c && men (ltK 2) .nil))=true;rw [Zce hu];rfl)
  (by
   refine ⟨fun k=>fun x=>x=w.heap.size+1∨x=w.heap.size∨∃ k b,lkr (S t0) k=some b∧Ft k x,fun k b hk=>?_⟩
   obtain ⟨rfl,rfl⟩:=cases1 hk
   refine ⟨rfl,?_,?_,fun x hx=>?_,fun k' b' hne hk' x hx hx'=>hne (cases1 hk').1.symm⟩
   ·intro j hj
    rw [List.mem_singleton.1 hj];rfl
   ·refine sat_ASemV (νc:=fun j=>if j=0 then .map (some (w.heap.size+1)) else .nilFunc) ⟨rfl,fun y hy=>⟨hy,hold y (hKz y hy)⟩,.inl rfl,.inr (.inl rfl),hL1,hD1,ν,Ft,hg.one,fun _ _=>rfl,fun k b hk=>?_⟩
    refine ⟨hsat k b hk,fun x hx=>⟨.inr (.inr ⟨k,b,hk,hx⟩),?_,?_⟩,fun k' b' hne hk'=>(hF k b hk).2.2.2.2 k' b' hne hk'⟩
    ·have:=(hdis x k b hk hx).2;omega
    ·have:=(hdis x k b hk hx).2;omega
   ·have hKs:∀ x,K x→x < w.heap.size:=hg.kl
    rcases hx with h|h|⟨k2,b2,h2,h⟩
    ·exact ⟨fun hk=>by have:=hKs x hk;omega,by omega⟩
    ·exact ⟨fun hk=>by have:=hKs x hk;omega,by omega⟩
    ·exact ⟨(hdis x _ _ h2 h).1,by have:=(hdis x _ _ h2 h).2;omega⟩)
  hg.zk (fun b hb=>by rw [hs1];have:=hg.kl b hb;omega)
 refine ⟨w.heap.size+1,[{ target:=.collected w.heap.size,args := #[] }],W1,{ target:=.fn (.func gf) [vb].toArray,args := #[.func (.yield (w.heap.size+1)) #[] #[]] },W1,gf,#[.func (.yield (w.heap.size+1)) #[] #[]]++[vb].toArray,W1,?_,?_,?_,?_,(fun h=>by cases h),?_⟩
 ·rw [←hW1,hrc];exact run_enterLoop_outer _ _ _ _ _
 ·simp only [resolve,ecv]
  simp [go_sem]
 ·intro f' _;exact trivial
 ·simp [invoke,go_sem,eg]
 refine CallsIn.mono (Zeo hcl) ?_
 rintro e W' ⟨y,Z',ν',v,μ',rs',rfl,hst,h1',hν,_,hr',hm',⟨Fn,hFn⟩,hz,g,⟨bb,t',hbt,hbf,rfl⟩,rfl,rfl,_,rfl⟩
 obtain ⟨_,_,s1,s2,s3⟩:=hFn 1 (.sem [0] (Zia w Z ν m (w.heap.size+1) w.heap.size (Zc4 rc lv bb) (S t'))) rfl
 obtain ⟨a1,a2,a3,a4,a5,a6,νA,G,a7,a8,a9⟩:=ASemV_of s1
 have hIX:I t'∨X t':=by
  cases bb with
  |true=>exact .inl (hbt rfl).1
  |false=>exact .inr (hbf rfl)
 have hDz:¬ Z' w.heap.size:=fun h=>(s2 _ a4).1 (.inr h)
 have hlz:¬ Z' (w.heap.size+1):=fun h=>(s2 _ a3).1 (.inr h)
 have hput:∀ x,x≠w.heap.size+1→(W'.putObj (w.heap.size+1) (.loop { Zc4 rc lv bb with state:=.exhausted })).heap[x]? = W'.heap[x]?:=fun x hx=>World.putObj_heap_other hx
 have hZput:∀ x,Z' x→(W'.putObj (w.heap.size+1) (.loop { Zc4 rc lv bb with state:=.exhausted })).heap[x]? = W'.heap[x]?:=fun x hx=>hput x (fun e=>hlz (e▸hx))
 have hend:=run_endLoop (P:=P) a5 (by
  cases bb with
  |true=>show rc.state≠_;rw [hrc];intro h;cases h
  |false=>intro h;cases h)
 have hstep:Step K Z w Z' (W'.putObj (w.heap.size+1) (.loop { Zc4 rc lv bb with state:=.exhausted })):=by
  refine ⟨⟨hst.ext.os.trans hos.1,hst.ext.tape.trans hos.2.1,hst.ext.output.trans hos.2.2,?_,fun b hb=>?_⟩,hst.le,hst.new⟩
  ·have:=hst.ext.size;rw [World.putObj_size];omega
  ·have:=hg.kl b hb
   exact (hput b (by omega)).trans ((hst.ext.block b hb).trans (hold b this))
 -- the state behind the loop
 have hkey:∀ e,Q e (CS.st ⟨M+1,env,(M,some .dfr) :: S t',M :: ms⟩)→Post N κ K Z w ν Q e { a with defers:=[{ target:=.collected w.heap.size,args := #[] }]++a.defers } (W'.putObj (w.heap.size+1) (.loop { Zc4 rc lv bb with state:=.exhausted })):=by
  intro e hq
  refine ⟨Z',fun k=>if k=M then Zgi [w.heap.size] else νA k,_,hstep,fun k hk=>?_,?_,hq⟩
  ·dsimp only
   rw [if_neg (by omega)];exact a8 k (by omega)
  have hνm:∀ k,ltK m k=true→(if k=M then Zgi [w.heap.size] else νA k)=ν k:=fun k hk=>by
   rw [ltK,Nat.blt_eq] at hk
   rw [if_neg (by omega)];exact a8 k hk
  refine ⟨hg.size,fun k=>?_,fun s=>?_,?_,fun b hb=>.inr hb,fun b hb=>?_,?_,fun k hk=>?_⟩
  ·show (if k=M then _ else _:Value).oneCell'=true
   split
   ·rfl
   ·exact a7 k
  ·obtain ⟨g1,g2⟩:=henv s
   refine ⟨Zdt (fun k hk=>by simp only [CS.st,ltK,Nat.blt_eq] at hk ⊢;omega) g1,R_nu hνm g1 (Zbc hst.le (fun y hy=>?_) g2)⟩
   exact (hZput y (hst.le y hy)).trans ((hst.ext.block y (hg.zk y hy)).trans (hold y (hKz y hy)))
  ·have hc:∀ {k b},lkr ((M,some Blk.dfr) :: S t') k=some b→(k=M∧b=.dfr)∨(k < M∧lkr (S t') k=some b):=by
    intro k b hk
    rw [Zai] at hk
    by_cases h1:k=M
    ·rw [if_pos h1] at hk;exact .inl ⟨h1,(Option.some.inj hk).symm⟩
    ·rw [if_neg h1] at hk
     exact .inr ⟨(hS t' k b hIX hk).1,hk⟩
   refine ⟨fun k=>if k=M then fun x=>x=w.heap.size else G k,fun k b hk=>?_⟩
   refine ⟨?_,?_,?_,fun x hx=>?_,fun k' b' hne hk' x hx hx'=>?_⟩
   ·show Nat.blt k (M+1)=true
    rw [Nat.blt_eq]
    rcases hc hk with ⟨rfl,_⟩|⟨h1,_⟩<;>omega
   ·rcases hc hk with ⟨_,rfl⟩|⟨_,h3⟩
    ·exact trivial
    ·exact Zdo (fun j hj=>by simp only [CS.st,ltK,Nat.blt_eq] at hj ⊢;omega) (hS t' k b hIX h3).2
   ·rcases hc hk with ⟨rfl,rfl⟩|⟨h1,h3⟩
    ·dsimp only
     rw [if_pos rfl,if_pos rfl]
     exact ⟨[w.heap.size],rfl,fun b hb=>by rw [List.mem_singleton.1 hb];exact (hput _ (by omega)).trans a6,by simp,fun y=>by simp⟩
    ·dsimp only
     rw [if_neg (by omega),if_neg (by omega)]
     obtain ⟨g1,g2,g3⟩:=a9 k b h3
     exact Zet (μ:=ltK M) (fun j hj=>by rw [ltK,Nat.blt_eq] at hj;rw [if_neg (by omega)]) (hS t' k b hIX h3).2 (Zbl (fun _ h=>h) hZput (fun x hx=>hput x (g2 x hx).2.1) g1)
   ·rw [World.putObj_size]
    dsimp only at hx
    rcases hc hk with ⟨rfl,rfl⟩|⟨h1,h3⟩
    ·rw [if_pos rfl] at hx
     rw [show x=_ from hx];exact s2 _ a4
    ·rw [if_neg (by omega)] at hx
     exact s2 x ((a9 k b h3).2.1 x hx).1
   ·dsimp only at hx hx'
    rcases hc hk with ⟨rfl,rfl⟩|⟨h1,h3⟩<;>rcases hc hk' with ⟨rfl,rfl⟩|⟨h1',h3'⟩
    ·exact hne rfl
    ·rw [if_pos rfl] at hx
     rw [if_neg (by omega)] at hx'
     exact ((a9 k' b' h3').2.1 x hx').2.2 hx
    ·rw [if_pos rfl] at hx'
     rw [if_neg (by omega)] at hx
     exact ((a9 k b h3).2.1 x hx).2.2 hx'
    ·rw [if_neg (by omega)] at hx hx'
     exact (a9 k b h3).2.2 k' b' hne h3' x hx hx'
  ·rw [World.putObj_size]
   rcases hb with hb|hb
   ·have h1:=hg.kl b hb
    have h2:=hst.ext.size
    omega
   ·exact hz b hb
  ·show _++a.defers=List.flatMap (fun k=>Ze5 (if k=M then _ else _)) (M :: ms)
   rw [hds,List.flatMap_cons,if_pos rfl]
   have e1:Ze5 (Zgi [w.heap.size])=[{ target:=.collected w.heap.size,args := #[] }]:=by
    rw [Zhu];rfl
   rw [e1]
   refine congrArg _ (fmC fun k hk=>?_)
   have:=hms k hk
   rw [hνm k this]
  ·show Nat.blt k (M+1)=true
   rw [Nat.blt_eq]
   rcases List.mem_cons.1 hk with rfl|hk
   ·omega
   ·have:=hms k hk
    rw [Nat.blt_eq] at this;omega
 cases bb with
 |true =>
  have hp:(Zc4 rc lv true).pending=none:=by show rc.pending=none;rw [hrc]
  have hend:=hend.trans (congrArg (fun q=>Result.ok q (W'.putObj (w.heap.size+1) (.loop { Zc4 rc lv true with state:=.exhausted }))) hp)
  exact ⟨none,_,hend,hkey _ (next t' (hbt rfl).1 (hbt rfl).2)⟩
 |false =>
  have hk2:=hkey _ (left t' (hbf rfl))
  refine ⟨some lv.c,_,hend,?_⟩
  cases lv with
  |ret=>exact wpIn_ret hk2
  |exit id=>exact wpIn_exit hk2
theorem awp_mark0 {c:Code} {m:Nat} {env:List (Nat × AV)} {rs:List (Nat × Option Blk)} {Q:Exit→St→Prop} (hκ:Nat.ble κ m=true) (h:awp P ro N κ c (CS.st ⟨m+1,env,(m,some .dfr) :: rs,[m]⟩) Q):awp P ro N κ c (CS.st ⟨m,env,rs,[]⟩) Q:=by
 intro n K Z ν w a hg
 have hκ:=Nat.le_of_ble_eq_true hκ
 have hw:∀ k,ltK m k=true→(if k=m then Zgi [] else ν k)=ν k:=fun k hk=>if_neg (by rw [ltK,Nat.blt_eq] at hk;omega)
 have hlt:∀ k,ltK m k=true→ltK (m+1) k=true:=fun k hk=>by simp only [ltK,Nat.blt_eq] at hk ⊢;omega
 have hgood:Good K Z N w (fun k=>if k=m then Zgi [] else ν k) (CS.st ⟨m+1,env,(m,some .dfr) :: rs,[m]⟩) a:=by
  refine ⟨hg.size,fun k=>?_,fun s=>⟨Zdt hlt (hg.env s).1,R_nu hw (hg.env s).1 (hg.env s).2⟩,?_,hg.zk,hg.kl,?_,fun k hk=>?_⟩
  ·show (if k=m then _ else _:Value).oneCell'=true
   split
   ·rfl
   ·exact hg.one k
  ·obtain ⟨Ft,hF⟩:=hg.rs
   refine ⟨fun k=>if k=m then fun _=>False else Ft k,fun k b hk=>?_⟩
   have hk:lkr ((m,some Blk.dfr) :: rs) k=some b:=hk
   rw [Zai] at hk
   by_cases e:k=m
   ·subst e
    rw [if_pos rfl] at hk
    obtain rfl:Blk.dfr=b:=Option.some.inj hk
    refine ⟨by show Nat.blt k (k+1)=true;rw [Nat.blt_eq];omega,trivial,⟨[],if_pos rfl,fun b hb=>absurd hb List.not_mem_nil,List.nodup_nil,fun y=>by simp⟩,fun x hx=>?_,fun k' b' hne hk' x hx=>?_⟩
    ·simp only [if_true] at hx
    ·simp only [if_true] at hx
   ·rw [if_neg e] at hk
    obtain ⟨g1,g2,g3,g4,g5⟩:=hF k b hk
    refine ⟨hlt k g1,Zdo hlt g2,?_,fun x hx=>g4 x (by simpa only [if_neg e] using hx),fun k' b' hne hk' x hx hx'=>?_⟩
    ·simp only [if_neg e];exact Zet hw g2 g3
    ·have hk':lkr ((m,some Blk.dfr) :: rs) k'=some b':=hk'
     rw [Zai] at hk'
     by_cases e':k'=m
     ·subst e';simp only [if_true] at hx'
     ·rw [if_neg e'] at hk'
      simp only [if_neg e] at hx
      simp only [if_neg e'] at hx'
      exact g5 k' b' hne hk' x hx hx'
  ·rw [hg.ds]
   show []=List.flatMap _ [m]
   rw [List.flatMap_cons,List.flatMap_nil,List.append_nil,if_pos rfl,Zhu];rfl
  ·rw [List.mem_singleton.1 hk]
   show Nat.blt m (m+1)=true
   rw [Nat.blt_eq];omega
 refine wpIn_mono (h n K Z _ w a hgood) ?_
 rintro e a' w' ⟨Z',ν',s',h1,h2,h3,h4⟩
 exact ⟨Z',ν',s',h1,fun k hk=>(h2 k hk).trans (if_neg (by omega)),h3,h4⟩
theorem awp_joinM {c:Code} {m:Nat} {env:List (Nat × AV)} {rs:List (Nat × Option Blk)} {ms:List Nat} {Q:Exit→St→Prop} (k1 k2:Nat) (h1:lkr rs k1=some .dfr) (h2:lkr rs k2=some .dfr) (hne:Nat.beq k1 k2=false) (hκ:Nat.ble κ m=true)
  (h:awp P ro N κ c (CS.st ⟨m+1,env,(m,some .dfr) :: dels [k1,k2] rs,m :: ms⟩) Q):awp P ro N κ c (CS.st ⟨m,env,rs,k1 :: k2 :: ms⟩) Q:=by
 intro n K Z ν w a hg
 have hκ:=Nat.le_of_ble_eq_true hκ
 have hne:k1≠k2:=by rintro rfl;rw [Nat.beq_refl] at hne;cases hne
 obtain ⟨Ft,hF⟩:=id hg.rs
 obtain ⟨_,_,⟨b1,x1,c1,n1,f1⟩,d1,e1⟩:=hF k1 _ h1
 obtain ⟨_,_,⟨b2,x2,c2,n2,f2⟩,d2,e2⟩:=hF k2 _ h2
 have hw:∀ k,ltK m k=true→(if k=m then Zgi (b1++b2) else ν k)=ν k:=fun k hk=>if_neg (by rw [ltK,Nat.blt_eq] at hk;omega)
 have hlt:∀ k,ltK m k=true→ltK (m+1) k=true:=fun k hk=>by simp only [ltK,Nat.blt_eq] at hk ⊢;omega
 have hgood:Good K Z N w (fun k=>if k=m then Zgi (b1++b2) else ν k) (CS.st ⟨m+1,env,(m,some .dfr) :: dels [k1,k2] rs,m :: ms⟩) a:=by
  refine ⟨hg.size,fun k=>?_,fun s=>⟨Zdt hlt (hg.env s).1,R_nu hw (hg.env s).1 (hg.env s).2⟩,?_,hg.zk,hg.kl,?_,fun k hk=>?_⟩
  ·show (if k=m then _ else _:Value).oneCell'=true
   split
   ·rfl
   ·exact hg.one k
  ·refine ⟨fun k=>if k=m then fun x=>x∈b1++b2 else Ft k,fun k b hk=>?_⟩
   have hk:lkr ((m,some Blk.dfr) :: dels [k1,k2] rs) k=some b:=hk
   rw [Zai] at hk
   have hfar:∀ x k b,x∈b1++b2→k≠k1→k≠k2→lkr rs k=some b→¬ Ft k x:=fun x k b hx hk1 hk2 hk hx'=>by
    rcases List.mem_append.1 hx with h|h
    ·exact e1 k b (Ne.symm hk1) hk x ((f1 x).2 h) hx'
    ·exact e2 k b (Ne.symm hk2) hk x ((f2 x).2 h) hx'
   by_cases e:k=m
   ·subst e
    rw [if_pos rfl] at hk
    obtain rfl:Blk.dfr=b:=Option.some.inj hk
    refine ⟨by show Nat.blt k (k+1)=true;rw [Nat.blt_eq];omega,trivial,⟨b1++b2,if_pos rfl,fun b hb=>?_,?_,fun y=>by simp only [if_true]⟩,fun x hx=>?_,fun k' b' hne hk' x hx hx'=>?_⟩
    ·rcases List.mem_append.1 hb with h|h
     ·exact c1 b h
     ·exact c2 b h
    ·rw [List.nodup_append]
     refine ⟨n1,n2,fun a ha b hb e=>?_⟩
     subst e
     exact e1 k2 _ hne h2 a ((f1 a).2 ha) ((f2 a).2 hb)
    ·simp only [if_true] at hx
     rcases List.mem_append.1 hx with h|h
     ·exact d1 x ((f1 x).2 h)
     ·exact d2 x ((f2 x).2 h)
    ·have hk':lkr ((k,some Blk.dfr) :: dels [k1,k2] rs) k'=some b':=hk'
     rw [Zai,if_neg (Ne.symm hne)] at hk'
     simp only [if_true] at hx
     simp only [if_neg (Ne.symm hne)] at hx'
     obtain ⟨q1,q2⟩:=Ze6 hk'
     simp only [List.mem_cons,List.not_mem_nil,or_false,not_or] at q1
     exact hfar x k' b' hx q1.1 q1.2 q2 hx'
   ·rw [if_neg e] at hk
    obtain ⟨q1,q2⟩:=Ze6 hk
    simp only [List.mem_cons,List.not_mem_nil,or_false,not_or] at q1
    obtain ⟨g1,g2,g3,g4,g5⟩:=hF k b q2
    refine ⟨hlt k g1,Zdo hlt g2,?_,fun x hx=>g4 x (by simpa only [if_neg e] using hx),fun k' b' hne hk' x hx hx'=>?_⟩
    ·simp only [if_neg e];exact Zet hw g2 g3
    ·have hk':lkr ((m,some Blk.dfr) :: dels [k1,k2] rs) k'=some b':=hk'
     rw [Zai] at hk'
     simp only [if_neg e] at hx
     by_cases e':k'=m
     ·subst e'
      simp only [if_true] at hx'
      exact hfar x k b hx' q1.1 q1.2 q2 hx
     ·rw [if_neg e'] at hk'
      simp only [if_neg e'] at hx'
      exact g5 k' b' hne (Ze6 hk').2 x hx hx'
  ·rw [hg.ds]
   show List.flatMap (fun k=>Ze5 (ν k)) (k1 :: k2 :: ms)=List.flatMap (fun k=>Ze5 (if k=m then Zgi (b1++b2) else ν k)) (m :: ms)
   rw [List.flatMap_cons,List.flatMap_cons,List.flatMap_cons,if_pos rfl,x1,x2]
   have e3:∀ bs:List Nat,Ze5 (Zgi bs)=bs.map fun r=>{ target:=.collected r,args := #[] }:=fun bs=>Zhu
   rw [e3,e3,e3,List.map_append,List.append_assoc]
   refine congrArg _ (congrArg _ (fmC fun k hk=>?_))
   have:=hg.ml k (List.mem_cons_of_mem _ (List.mem_cons_of_mem _ hk))
   rw [hw k this]
  ·rcases List.mem_cons.1 hk with rfl|hk
   ·show Nat.blt k (k+1)=true
    rw [Nat.blt_eq];omega
   ·exact hlt k (hg.ml k (List.mem_cons_of_mem _ (List.mem_cons_of_mem _ hk)))
 refine wpIn_mono (h n K Z _ w a hgood) ?_
 rintro e a' w' ⟨Z',ν',s',h1,h2,h3,h4⟩
 exact ⟨Z',ν',s',h1,fun k hk=>(h2 k hk).trans (if_neg (by omega)),h3,h4⟩
end
open Go
section
variable {P:Program} {ro:Option Nat} {N κ:Nat} {tb:Nat→Option TI}
def awpG (P:Program) (ro:Option Nat) (N κ:Nat) (ops:Array Oper) (l:List Oper) (σ:St) (Q:Exit→St→Prop):Prop :=
 ∀ n K Z ν w a,Good K Z N w ν σ a→wpListIn (FF ro) n P ops (Post N κ K Z w ν Q) l a w
theorem Zfu {id:Nat} {l:List Oper} {σ:St} {Q:Exit→St→Prop} (h:awpG P ro N κ l.toArray l σ Q):awp P ro N κ (.region id l.toArray false) σ Q :=
 fun n K Z ν w a hg=>wpIn_region_lit (h n K Z ν w a hg)
theorem Zg0 {ops:Array Oper} {σ:St} {Q:Exit→St→Prop} (h:Q .normal σ):awpG P ro N κ ops [] σ Q:=fun n K Z ν w a hg=>Zc2 hg h
def noGd (o:Oper):Oper:={ o with guard:=none }
theorem awpG_one {ops:Array Oper} {o:Oper} {rest:List Oper} {σ:St} {Q:Exit→St→Prop} (hw:∀ K Z ν w a,Good K Z N w ν σ a→Region.wanted o (yielded ops a.tmps)=true)
  (h:awpL P ro N κ [noGd o] σ (Zfe (fun s=>awpG P ro N κ ops rest s Q) Q)):awpG P ro N κ ops (o :: rest) σ Q:=by
 intro n K Z ν w a hg
 have h1:=h n K Z ν w a hg
 have hw1:Region.wanted (noGd o) (yielded #[] a.tmps)=true:=Za8 rfl _
 simp only [wpListIn,hw1,if_true] at h1
 simp only [wpListIn,hw K Z ν w a hg,if_true]
 have h2:o.wpIn (FF ro) n P a w (fun a' w'=>Post N κ K Z w ν (Zfe (fun s=>awpG P ro N κ ops rest s Q) Q) .normal a' w') (Post N κ K Z w ν (Zfe (fun s=>awpG P ro N κ ops rest s Q) Q)):=h1
 refine Zgf (fun a' w' hp=>?_) (fun e a' w' he hp=>?_) h2
 ·obtain ⟨Z',ν',σ',g1,g2,g3,g4⟩:=hp
  exact Zcc (fun e a2 w2 hp=>hp.trans g1 g2) (g4 n _ _ ν' w' a' g3)
 ·obtain ⟨Z',ν',σ',g1,g2,g3,g4⟩:=hp
  refine ⟨Z',ν',σ',g1,g2,g3,?_⟩
  cases e<;>first|exact absurd rfl he|exact g4
theorem tmp_bool {K Z:Nat→Prop} {w:World} {ν:Nat→Value} {σ:St} {a:Act} {d:Nat} {b:Bool} (hg:Good K Z N w ν σ a) (h:σ.env d=.bool b):a.tmps[d]? = some (.bool b):=by
 have:=(hg.env d).2
 rw [h] at this
 have h2:a.tmps.getD d undef=.bool b:=one1 this
 rw [Array.getD_eq_getD_getElem?] at h2
 cases e:a.tmps[d]? with
 |none=>rw [e] at h2;cases h2
 |some v=>rw [e] at h2;simp only [Option.getD_some] at h2;rw [h2]
theorem wanted_of {K Z:Nat→Prop} {w:World} {ν:Nat→Value} {σ:St} {a:Act} {ops:Array Oper} {o oi:Oper} {i d:Nat} {b v:Bool} (hg:Good K Z N w ν σ a) (ho:o.guard=some (i,b)) (hi:ops[i]? = some oi) (hd:oi.dst=some d) (h:σ.env d=.bool v):Region.wanted o (yielded ops a.tmps)=(v == b):=by
 have e:yielded ops a.tmps i=some v:=by
  unfold yielded
  rw [hi]
  simp only [Option.bind_some,hd,tmp_bool hg h]
 unfold Region.wanted
 rw [ho]
 simp only [e]
 cases v<;>cases b<;>rfl
theorem Zcz {ops:Array Oper} {o:Oper} {rest:List Oper} {σ:St} {Q:Exit→St→Prop} (ho:o.guard=none) (h:awpL P ro N κ [noGd o] σ (Zfe (fun s=>awpG P ro N κ ops rest s Q) Q)):awpG P ro N κ ops (o :: rest) σ Q :=
 awpG_one (fun K Z ν w a hg=>Za8 (by rw [ho];rfl) _) h
theorem Zd1 {ops:Array Oper} {o oi:Oper} {rest:List Oper} {m:Nat} {env:List (Nat × AV)} {rs:List (Nat × Option Blk)} {ms:List Nat} {Q:Exit→St→Prop} {i d:Nat} {b:Bool} (ho:o.guard=some (i,b)) (hi:ops[i]? = some oi) (hd:oi.dst=some d) (hv:lke env d=.bool b)
  (h:awpL P ro N κ [noGd o] (CS.st ⟨m,env,rs,ms⟩) (Zfe (fun s=>awpG P ro N κ ops rest s Q) Q)):awpG P ro N κ ops (o :: rest) (CS.st ⟨m,env,rs,ms⟩) Q :=
 awpG_one (fun K Z ν w a hg=>by rw [wanted_of hg ho hi hd hv];cases b<;>rfl) h
theorem Zez {ops:Array Oper} {o oi:Oper} {rest:List Oper} {m:Nat} {env:List (Nat × AV)} {rs:List (Nat × Option Blk)} {ms:List Nat} {Q:Exit→St→Prop} {i d:Nat} {b:Bool} (ho:o.guard=some (i,b)) (hi:ops[i]? = some oi) (hd:oi.dst=some d) (hv:lke env d=.bool (!b)) (hN:Zdq N [o]=true)
  (h:awpG P ro N κ ops rest (CS.st ⟨m,putE o.dst (.whn false (.bool false)) env,rs,ms⟩) Q):awpG P ro N κ ops (o :: rest) (CS.st ⟨m,env,rs,ms⟩) Q:=by
 intro n K Z ν w a hg
 have hw:Region.wanted o (yielded ops a.tmps)=false:=by rw [wanted_of hg ho hi hd hv];cases b<;>rfl
 simp only [wpListIn,hw]
 refine ⟨fun f hf=>trivial,?_⟩
 have hd':∀ d,o.dst=some d→d < N:=fun d hd2=>by
  simp [Zdq,hd2] at hN;exact hN
 have hg2:=Good.setd (v:=.whn false (.bool false)) (y:=undef) hg hd' ⟨(fun h=>by cases h),fun _=>rfl⟩ rfl
 refine h n K Z ν w _ ?_
 rw [show CS.st ⟨m,putE o.dst (.whn false (.bool false)) env,rs,ms⟩=⟨ltK m,lke (putE o.dst (.whn false (.bool false)) env),lkr rs,ms⟩ from rfl,Zho]
 exact hg2
def sV (M:Nat):List (Nat × Option Blk)→Prop
 |[]=>True
 |(k,some b) :: l=>(Nat.blt k M=true∧menB (ltK M) b)∧sV M l
 |(k,none) :: l=>sV M l
theorem Zhm {M:Nat}:∀ {l:List (Nat × Option Blk)},sV M l→∀ k b,lkr l k=some b→k < M∧menB (ltK M) b
 |[],_,k,b,hk=>by cases hk
 |(j,some c) :: l,h,k,b,hk=>by
  rw [Zai] at hk
  by_cases e:k=j
  ·rw [if_pos e] at hk
   rw [e,←Option.some.inj hk]
   exact ⟨by have:=h.1.1;rwa [Nat.blt_eq] at this,h.1.2⟩
  ·rw [if_neg e] at hk;exact Zhm h.2 k b hk
 |(j,none) :: l,h,k,b,hk=>by
  rw [Zai] at hk
  by_cases e:k=j
  ·rw [if_pos e] at hk;cases hk
  ·rw [if_neg e] at hk;exact Zhm (l:=l) h k b hk
end
open Go
section
variable {P:Program} {ro:Option Nat} {N κ:Nat} {tb:Nat→Option TI}
theorem Zgz {o:Oper} {x:Operand} {xs:List Operand} {ts:Array TypeId} {f m:Nat} {caps:AV} {env:List (Nat × AV)} {l:List (Nat × Option Blk)} {ms:List Nat} (kk:List Nat) {args:List AV} {rin:List (Nat × Option Blk)} {E:List PanicEntry→Prop} {Q0:GR→Prop} {Q:Exit→St→Prop}
  (hS:FP P f args rin kk.length E Q0)
  (ho:o.op=.call ⟨.value x,xs.toArray,ts⟩) (hgd:o.guard.isNone=true) (hd:Zdq N [o]=true) (hf:opv (lke env) x=.fn f caps) (hpc:properL caps=true)
  (hargs:appL (ofL (opv (lke env)) xs) caps=ren (rhoC kk m) (mkL args)) (hmen:men (ltK kk.length) (mkL args)=true) (hkk:kkOK m kk=true) (hκ:Nat.ble κ m=true)
  (hrin:rinR kk m l rin)
  (next:∀ gm gv gr,Q0 ⟨gm,gv,gr⟩→∀ m' e' l',(m+(gm - kk.length)=m'∧putE o.dst (ren (rhoC kk m) gv) env=e'∧outR kk m gr l=l')→Q .normal (CS.st ⟨m',e',l',ms⟩))
  (pan:∀ c,E c→Q (.panic c) (CS.st ⟨m,env,dels kk l,ms⟩)):awpL P ro N κ [o] (CS.st ⟨m,env,l,ms⟩) Q:=by
 refine awpL_callp (s:=⟨m,env,l,ms⟩) kk hS ho hgd hd hf hpc hargs hmen hkk hκ (fun j B hj=>?_) (fun g hg hle=>next g.m g.val g.rs hg _ _ _ ⟨rfl,rfl,rfl⟩) pan
 obtain ⟨h1,h2,h3⟩:=Zhn hrin (Zdu hj).2
 rw [Nat.blt_eq] at h1
 exact ⟨h1,h2,h3⟩
def panicV (t:Nat):List PanicEntry:=[{ v:=.iface t (.agg #[]),recovered:=false }]
theorem awp_panicS {id t d1 d2 m:Nat} {o1 o2 o3:Oper} {env:List (Nat × AV)} {l:List (Nat × Option Blk)} {ms:List Nat} {Q:Exit→St→Prop}
  (hb:∀ w,(Instr.build t #[]).run P w=.ok (.agg #[]) w) (hi:∀ w,(Instr.makeInterface t (.agg #[])).run P w=.ok (.iface t (.agg #[])) w)
  (h1:o1.op=.build t #[]∧o1.guard=none∧o1.dst=some d1) (h2:o2.op=.makeInterface t (.tmp d1)∧o2.guard=none∧o2.dst=some d2) (h3:o3.op=.panic (.tmp d2)∧o3.guard=none) (hd:Nat.blt d1 N=true∧Nat.blt d2 N=true)
  (h:Q (.panic (panicV t)) (CS.st ⟨m,(d2,.any) :: (d1,.any) :: env,l,ms⟩)):awp P ro N κ (.region id #[o1,o2,o3] false) (CS.st ⟨m,env,l,ms⟩) Q:=by
 intro n K Z ν w a hg
 simp only [Nat.blt_eq] at hd
 refine wpIn_region_lit (l:=[o1,o2,o3]) ?_
 have hw:∀ (o:Oper) (b:Act),o.guard=none→Region.wanted o (yielded #[o1,o2,o3] b.tmps)=true:=fun o b ho=>Za8 (by rw [ho];rfl) _
 have s1:(o1.semAt (FF ro).round a.eval).run P w=.ok (.value (.agg #[])) w:=by
  rw [Zbq (by rw [h1.1];intro c hc;cases hc)]
  have:=hb w
  simp [execOp,h1.1,Sem.run_bind,Result.andThen,this,Sem.run]
 have e1:(a.put o1.dst (.agg #[])).eval (.tmp d1)=.agg #[]:=by
  have:=hg.size
  simp [h1.2.2,Act.put,Act.eval,Array.getD_eq_getD_getElem?,this,hd.1]
 have s2:(o2.semAt (FF ro).round (a.put o1.dst (.agg #[])).eval).run P w=.ok (.value (.iface t (.agg #[]))) w:=by
  rw [Zbq (by rw [h2.1];intro c hc;cases hc)]
  have:=hi w
  simp [execOp,h2.1,e1,Sem.run_bind,Result.andThen,this,Sem.run]
 have e2:((a.put o1.dst (.agg #[])).put o2.dst (.iface t (.agg #[]))).eval (.tmp d2)=.iface t (.agg #[]):=by
  have:=hg.size
  simp [h1.2.2,h2.2.2,Act.put,Act.eval,Array.getD_eq_getD_getElem?,this,hd.2]
 have s3:(o3.semAt (FF ro).round ((a.put o1.dst (.agg #[])).put o2.dst (.iface t (.agg #[]))).eval).run P w=.halt (.panic (.iface t (.agg #[]))) w:=by
  rw [Zbq (by rw [h3.1];intro c hc;cases hc)]
  simp [execOp,h3.1,e2,Instr.panic,goPanic,Sem.run_bind,Result.andThen,Sem.run]
 simp only [wpListIn,hw o1 _ h1.2.1,hw o2 _ h2.2.1,hw o3 _ h3.2,if_true]
 refine ⟨fun f hf=>trivial,?_⟩
 rw [s1]
 refine ⟨fun f hf=>trivial,?_⟩
 rw [s2]
 refine ⟨fun f hf=>trivial,?_⟩
 rw [s3]
 have g1:=Good.setd (o:=o1.dst) (v:=.any) (y:=.agg #[]) hg (fun d h=>by rw [h1.2.2] at h;cases h;exact hd.1) ⟨_,rfl⟩ rfl
 have g2:=Good.setd (o:=o2.dst) (v:=.any) (y:=.iface t (.agg #[])) g1 (fun d h=>by rw [h2.2.2] at h;cases h;exact hd.2) ⟨_,rfl⟩ rfl
 refine Zc2 ?_ h
 rw [h1.2.2,h2.2.2] at g2
 have he:(CS.st ⟨m,(d2,.any) :: (d1,.any) :: env,l,ms⟩)={ (CS.st ⟨m,env,l,ms⟩) with env:=putO (putO (lke env) (some d1) .any) (some d2) .any }:=by
  show St.mk _ _ _ _=St.mk _ _ _ _
  congr 1
 rw [he,h1.2.2,h2.2.2]
 exact g2
theorem retP {fn:Func} {E:List PanicEntry→Prop} {Q:CS→AV→Prop} {s:St} (h:Zmv tb fn κ Q .ret s):Zl2 tb fn κ E Q .ret s:=h
theorem normalP {fn:Func} {E:List PanicEntry→Prop} {Q:CS→AV→Prop} {s:St} (h:Zmv tb fn κ Q .normal s):Zl2 tb fn κ E Q .normal s:=h
theorem panP {fn:Func} {E:List PanicEntry→Prop} {Q:CS→AV→Prop} {c:List PanicEntry} {cs:CS} (hE:E c) (h1:∀ k,k∈cs.ms→lkr cs.rs k=some .dfr) (h2:cs.ms.Nodup):Zl2 tb fn κ E Q (.panic c) cs.st:=⟨hE,cs,rfl,h1,h2⟩
theorem Zi1 {next:St→Prop} {Q:Exit→St→Prop} {c:List PanicEntry} {s:St} (h:Q (.panic c) s):Zfe next Q (.panic c) s:=h
theorem Zhq {id:Nat} {Q:Exit→St→Prop} {c:List PanicEntry} {s:St} (h:Q (.panic c) s):Zjy id Q (.panic c) s:=h
end
open Go
def dfA (f:Nat) (vs:List Value) (Z:Nat→Prop) (w:World) (F:Nat→Prop):Prop:=∃ y z,vs=[.func (.func f) #[] #[y,z],y,z]
section
variable {P:Program} {ro:Option Nat} {N κ:Nat} {tb:Nat→Option TI}
theorem Good.key {K Z:Nat→Prop} {w:World} {ν:Nat→Value} {m:Nat} {env:List (Nat × AV)} {l:List (Nat × Option Blk)} {a:Act} {v:Value} {b:Option Blk} {ds:List Deferred} (hg:Good K Z N w ν (CS.st ⟨m,env,l,[]⟩) a) (hv:v.oneCell'=true)
  (hb:∀ B,b=some B→menB (ltK (m+1)) B∧∀ ν':Nat→Value,ν' m=v→(∀ k,k < m→ν' k=ν k)→sat Z w ν' v (fun _=>False) B) (hd:Ze5 v=ds) :
  Good K Z N w (fun k=>if k=m then v else ν k) (CS.st ⟨m+1,env,(m,b) :: l,[m]⟩) { a with defers:=ds }:=by
 have hwide:∀ k,ltK m k=true→ltK (m+1) k=true:=fun k hk=>by simp only [ltK,Nat.blt_eq] at hk ⊢;omega
 have hν:∀ k,ltK m k=true→(fun k=>if k=m then v else ν k) k=ν k:=fun k hk=>by
  simp only [ltK,Nat.blt_eq] at hk
  exact if_neg (by omega)
 refine ⟨hg.size,fun k=>?_,fun s=>⟨Zdt hwide (hg.env s).1,R_nu hν (hg.env s).1 (hg.env s).2⟩,?_,hg.zk,hg.kl,?_,fun k hk=>?_⟩
 ·show (if k=m then v else ν k:Value).oneCell'=true
  split
  ·exact hv
  ·exact hg.one k
 ·obtain ⟨Ft,hF⟩:=hg.rs
  have hlt:∀ k B,lkr l k=some B→k < m:=fun k B hk=>by
   have h:=(hF k B hk).1
   have h:ltK m k=true:=h
   simpa only [ltK,Nat.blt_eq] using h
  have hl:∀ k,lkr ((m,b) :: l) k=if k=m then b else lkr l k:=fun k=>by
   unfold lkr
   simp only [lko]
   by_cases e:k=m
   ·subst e;rw [Nat.beq_refl,if_pos rfl]
   ·rw [beqN e,if_neg e]
  refine ⟨fun k x=>k≠m∧Ft k x,fun k B hk=>?_⟩
  show ltK (m+1) k=true∧_
  have hk:lkr ((m,b) :: l) k=some B:=hk
  rw [hl] at hk
  by_cases e:k=m
  ·subst e
   rw [if_pos rfl] at hk
   obtain ⟨b1,b2⟩:=hb B hk
   have hFe:(fun x=>k≠k∧Ft k x)=fun _=>False:=funext fun x=>propext ⟨fun h=>h.1 rfl,False.elim⟩
   refine ⟨by simp only [ltK,Nat.blt_eq];omega,b1,?_,fun x hx=>absurd rfl hx.1,fun k' B' hne hk' x hx=>absurd rfl hx.1⟩
   dsimp only
   rw [hFe,if_pos rfl]
   exact b2 _ (if_pos rfl) fun j hj=>if_neg (by omega)
  ·rw [if_neg e] at hk
   obtain ⟨g1,g2,g3,g4,g5⟩:=hF k B hk
   have hFe:(fun x=>k≠m∧Ft k x)=Ft k:=funext fun x=>propext ⟨fun h=>h.2,fun h=>⟨e,h⟩⟩
   refine ⟨hwide k g1,Zdo hwide g2,?_,fun x hx=>g4 x hx.2,fun k' B' hne hk' x hx hx'=>?_⟩
   ·dsimp only
    rw [hFe,if_neg e]
    exact Zet (fun j hj=>hν j hj) g2 g3
   ·have hk':lkr ((m,b) :: l) k'=some B':=hk'
    rw [hl,if_neg hx'.1] at hk'
    exact g5 k' B' hne hk' x hx.2 hx'.2
 ·show ds=[m].flatMap _
  simp [hd]
 ·rw [List.mem_singleton.1 hk]
  show Nat.blt m (m+1)=true
  rw [Nat.blt_eq];omega
theorem awp_defer2 {id f d s1 s2 k1 k2 m:Nat} {o1 o2:Oper} {env:List (Nat × AV)} {l:List (Nat × Option Blk)} {Q:Exit→St→Prop}
  (h1:o1.op=.makeFunc (.func (f+1)) #[] #[.tmp s1,.tmp s2]∧o1.guard=none∧o1.dst=some d) (h2:o2.op=.defer ⟨.value (.tmp d),#[],#[]⟩∧o2.guard=none∧o2.dst=none) (hd:Nat.blt d N=true) (hκ:Nat.ble κ m=true)
  (v1:lke env s1=.own k1) (v2:lke env s2=.own k2)
  (h:Q .normal (CS.st ⟨m+1,(d,.any) :: env,(m,some (.sem [m,k1,k2] (dfA (f+1)))) :: l,[m]⟩)):awp P none N κ (.region id #[o1,o2] false) (CS.st ⟨m,env,l,[]⟩) Q:=by
 intro n K Z ν w a hg
 rw [Nat.blt_eq] at hd
 have hκ:=Nat.le_of_ble_eq_true hκ
 refine wpIn_region_lit (l:=[o1,o2]) ?_
 have hw:∀ (o:Oper) (b:Act),o.guard=none→Region.wanted o (yielded #[o1,o2] b.tmps)=true:=fun o b ho=>Za8 (by rw [ho];rfl) _
 have a1:a.eval (.tmp s1)=ν k1:=by
  have:=(Zih (σ:=CS.st ⟨m,env,l,[]⟩) hg (.tmp s1))
  rw [show opv (CS.st ⟨m,env,l,[]⟩).env (.tmp s1)=.own k1 from v1] at this
  exact one1 this
 have a2:a.eval (.tmp s2)=ν k2:=by
  have:=(Zih (σ:=CS.st ⟨m,env,l,[]⟩) hg (.tmp s2))
  rw [show opv (CS.st ⟨m,env,l,[]⟩).env (.tmp s2)=.own k2 from v2] at this
  exact one1 this
 have m1:k1 < m:=by
  have:=Zhb (σ:=CS.st ⟨m,env,l,[]⟩) hg (.tmp s1)
  rw [show opv (CS.st ⟨m,env,l,[]⟩).env (.tmp s1)=.own k1 from v1] at this
  have this:Nat.blt k1 m=true:=this
  simpa only [Nat.blt_eq] using this
 have m2:k2 < m:=by
  have:=Zhb (σ:=CS.st ⟨m,env,l,[]⟩) hg (.tmp s2)
  rw [show opv (CS.st ⟨m,env,l,[]⟩).env (.tmp s2)=.own k2 from v2] at this
  have this:Nat.blt k2 m=true:=this
  simpa only [Nat.blt_eq] using this
 have r1:(o1.semAt (FF none).round a.eval).run P w=.ok (.value (.func (.func (f+1)) #[] #[ν k1,ν k2])) w:=by
  rw [Zbq (by rw [h1.1];intro c hc;cases hc)]
  simp [execOp,h1.1,Instr.makeFunc,a1,a2,Sem.run_bind,Result.andThen,Sem.run]
 have e1:(a.put o1.dst (.func (.func (f+1)) #[] #[ν k1,ν k2])).eval (.tmp d)=.func (.func (f+1)) #[] #[ν k1,ν k2]:=by
  have:=hg.size
  simp [h1.2.2,Act.put,Act.eval,Array.getD_eq_getD_getElem?,this,hd]
 have r2:(o2.semAt (FF none).round (a.put o1.dst (.func (.func (f+1)) #[] #[ν k1,ν k2])).eval).run P w=.ok (.defer { target:=.fn (.func (f+1)) #[ν k1,ν k2],args := #[] }) w:=by
  rw [show (FF none).round=none from rfl,Oper.semAt_none]
  simp [execOp,h2.1,e1,resolve,Deferred.ofValue,Sem.run_bind,Result.andThen,Sem.run]
 simp only [wpListIn,hw o1 _ h1.2.1,hw o2 _ h2.2.1,if_true]
 refine ⟨fun f hf=>trivial,?_⟩
 rw [r1]
 refine ⟨fun f hf=>trivial,?_⟩
 rw [r2]
 have g1:=Good.setd (o:=o1.dst) (v:=.any) (y:=.func (.func (f+1)) #[] #[ν k1,ν k2]) hg (fun d' h=>by rw [h1.2.2] at h;cases h;exact hd) ⟨_,rfl⟩ rfl
 have hds:(a.put o1.dst (.func (.func (f+1)) #[] #[ν k1,ν k2])).defers=[]:=by
  have:=g1.ds
  exact this
 have g2:Good K Z N w ν (CS.st ⟨m,(d,.any) :: env,l,[]⟩) (a.put o1.dst (.func (.func (f+1)) #[] #[ν k1,ν k2])):=by
  have he:(CS.st ⟨m,(d,.any) :: env,l,[]⟩)={ (CS.st ⟨m,env,l,[]⟩) with env:=putO (CS.st ⟨m,env,l,[]⟩).env o1.dst .any }:=by
   rw [h1.2.2]
   show St.mk _ _ _ _=St.mk _ _ _ _
   congr 1
  rw [he];exact g1
 have g3:=Good.key (v:=.func (.func (f+1)) #[] #[ν k1,ν k2]) (b:=some (.sem [m,k1,k2] (dfA (f+1)))) (ds:=[{ target:=.fn (.func (f+1)) #[ν k1,ν k2],args := #[] }]) g2 rfl (fun B hB=>by
  cases hB
  refine ⟨fun k hk=>?_,fun ν' w1 w2 Z' w' _ _=>⟨ν' k1,ν' k2,?_⟩⟩
  ·simp only [List.mem_cons,List.not_mem_nil,or_false] at hk
   simp only [ltK,Nat.blt_eq]
   rcases hk with rfl|rfl|rfl<;>omega
  ·simp only [List.map_cons,List.map_nil,w1,w2 k1 m1,w2 k2 m2]) rfl
 rw [Oper.uponIn_defer]
 refine ⟨Z,fun k=>if k=m then .func (.func (f+1)) #[] #[ν k1,ν k2] else ν k,_,Step.refl K Z w,fun k hk=>if_neg (by omega),?_,h⟩
 rw [Zbt hg.zk]
 show Good K Z N w _ _ ({ (a.put o1.dst (.func (.func (f+1)) #[] #[ν k1,ν k2])) with defers:={ target:=.fn (.func (f+1)) #[ν k1,ν k2],args := #[] } :: (a.put o1.dst (.func (.func (f+1)) #[] #[ν k1,ν k2])).defers }.put o2.dst undef)
 rw [h2.2.2,hds]
 exact g3
theorem R_count : ∀ {Z:Nat→Prop} {w:World} {ν:Nat→Value} (args:List AV) (cs:List Value),R Z w (mkL args) ν true cs→cs.length=args.length
 |_,_,_,[],cs,h=>by rw [show cs=[] from h];rfl
 |_,_,_,a :: t,cs,h=>by obtain ⟨v,vs,rfl,_,r2⟩:=h;simp [R_count t vs r2]
theorem good_enter {n:Nat} {args:List AV} {rin:List (Nat × Option Blk)} {K Z:Nat→Prop} {ν:Nat→Value} {w:World} {vals:Array Value} (hN:args.length≤n) (h1:∀ k,(ν k).oneCell'=true) (hr:R Z w (mkL args) ν true vals.toList) (hm:men (ltK κ) (mkL args)=true)
  (hrs:GoodRs K Z w ν (ltK κ) (lkr rin)) (hzk:∀ b,Z b→K b) (hkl:∀ b,K b→b < w.heap.size):Good K Z n w ν (CS.st ⟨κ,zipE 0 args,rin,[]⟩) { tmps:=vals++Array.replicate (n - vals.size) undef,defers:=[] }:=by
 have hlen:vals.size=args.length:=by simpa using R_count args _ hr
 have hnth:∀ (args:List AV) (i s:Nat) (cs:List Value),R Z w (mkL args) ν true cs→men (ltK κ) (mkL args)=true→men (ltK κ) (lke (zipE i args) s)=true∧((i≤s∧s < i+args.length→R Z w (lke (zipE i args) s) ν true [cs.getD (s - i) undef])∧(¬ (i≤s∧s < i+args.length)→lke (zipE i args) s=.any)):=by
  intro args
  induction args with
  |nil=>intro i s cs _ _;exact ⟨rfl,fun h=>by simp at h;omega,fun _=>rfl⟩
  |cons a t ih =>
   intro i s cs hr hm
   obtain ⟨v,vs,rfl,r1,r2⟩:=hr
   simp only [mkL,men,Bool.and_eq_true] at hm
   obtain ⟨g1,g2,g3⟩:=ih (i+1) s vs r2 hm.2
   by_cases hs:s=i
   ·subst hs
    simp only [zipE,lke,Nat.beq_refl]
    exact ⟨hm.1,fun _=>by rw [Nat.sub_self];exact r1,fun hn=>absurd ⟨Nat.le_refl s,by simp⟩ hn⟩
   ·simp only [zipE,lke,beqN hs]
    refine ⟨g1,fun hh=>?_,fun hn=>g3 fun hh=>hn ⟨by omega,by simp only [List.length_cons];omega⟩⟩
    have:=g2 ⟨by omega,by simp only [List.length_cons] at hh;omega⟩
    rw [show s - i=(s - (i+1))+1 from by omega]
    exact this
 refine ⟨by simp;omega,h1,fun s=>?_,hrs,hzk,hkl,rfl,fun k hk=>by cases hk⟩
 obtain ⟨g1,g2,g3⟩:=hnth args 0 s vals.toList hr hm
 refine ⟨g1,?_⟩
 show R Z w (lke (zipE 0 args) s) ν true _
 by_cases hs:s < args.length
 ·have:=g2 ⟨by omega,by omega⟩
  have e:(vals++Array.replicate (n - vals.size) undef).getD s undef=vals.toList.getD (s - 0) undef:=by
   simp [Array.getD_eq_getD_getElem?,List.getD_eq_getElem?_getD,Array.getElem?_append_left (show s < vals.size by omega)]
  show R Z w _ ν true [(vals++Array.replicate (n - vals.size) undef).getD s undef]
  rw [e];exact this
 ·rw [g3 (by omega)];exact ⟨_,rfl⟩
def DPan (P:Program) (f:Nat) (E:List PanicEntry→Prop) (u1 u2 v1 v2:AV):Prop :=
 ∀ (c:List PanicEntry) (K Z:Nat→Prop) (ν:Nat→Value) (w:World) (m k1 k2:Nat) (l:List (Nat × Option Blk)),E c→(∀ k,(ν k).oneCell'=true)→GoodRs K Z w ν (ltK m) (lkr l)→(∀ b,Z b→K b)→(∀ b,K b→b < w.heap.size) →
  k1 < m→k2 < m→k1≠k2→lkr l k1=some (.box u1)→lkr l k2=some (.box u2) →
  CallsDIn (FF none) 0 P f #[ν k1,ν k2] (.panicking c) w fun e u' w'=>(∃ v,e=.returned v)∧settle u'=.returning∧∃ Z' ν' m' rs',Step K Z w Z' w'∧(∀ k,k < m→ν' k=ν k)∧(∀ k,(ν' k).oneCell'=true)∧GoodRs (un K Z') Z' w' ν' (ltK m') rs'∧m≤m'∧(∀ b,un K Z' b→b < w'.heap.size) ∧
   Zmn ((k1,some (.box v1)) :: (k2,some (.box v2)) :: l) rs'
def DRet (P:Program) (f:Nat):Prop :=
 ∀ (w:World) (y z:Value),CallsDIn (FF none) 0 P f #[y,z] .returning w fun e u' w'=>(∃ v,e=.returned v)∧settle u'=.returning∧w'=w
def exitQD (tb:Nat→Option TI) (fn:Func) (κ f:Nat) (E:List PanicEntry→Prop) (u1 u2 v1 v2:AV) (Q:CS→AV→Prop):Exit→St→Prop
 |.normal,s | .ret,s=>∃ (cs:CS) (l:List AV) (kd k1 k2:Nat),s=cs.st∧evRes tb cs fn.results.toList=some l∧cs.ms=[kd]∧lkr cs.rs kd=some (.sem [kd,k1,k2] (dfA f))∧κ≤cs.m∧Q cs (resV l)
 |.panic c,s=>E c∧∃ (cs:CS) (l:List AV) (kd k1 k2:Nat),s=cs.st∧cs.ms=[kd]∧lkr cs.rs kd=some (.sem [kd,k1,k2] (dfA f))∧lkr cs.rs k1=some (.box u1)∧lkr cs.rs k2=some (.box u2)∧k1≠k2∧κ≤cs.m ∧
   (∀ m,evRes tb ⟨m,cs.env,(k1,some (.box v1)) :: (k2,some (.box v2)) :: cs.rs,[]⟩ fn.results.toList=some l)∧Q ⟨cs.m,cs.env,(k1,some (.box v1)) :: (k2,some (.box v2)) :: cs.rs,[]⟩ (resV l)
 |_,_=>False
theorem sem_now {K Z:Nat→Prop} {w:World} {ν:Nat→Value} {x:Value} {F:Nat→Prop} {ks:List Nat} {A:List Value→(Nat→Prop)→World→(Nat→Prop)→Prop} (h:sat Z w ν x F (.sem ks A)):A (ks.map ν) Z w F:=h Z w (fun _ h=>h) (fun _ _=>rfl)
theorem fgd_of (htb : Zdf P tb) {f κ nf : Nat} {fn : Func} {c : Code} {args : List AV} {rin : List (Nat × Option Blk)} {E : List PanicEntry → Prop} {u1 u2 v1 v2 : AV} {Q : GR → Prop} (hf : P.funcs[f]? = some fn) (hname : (fn.name == "runtime.NumGoroutine") = false) (hb : fn.body = some c) (hN : args.length ≤ fn.ntmps)
  (hfn:Plain P (nf+1)) (hret:DRet P (nf+1)) (hpan:DPan P (nf+1) E u1 u2 v1 v2)
  (h:lenP (mkL args)→awp P none fn.ntmps κ c (CS.st ⟨κ,zipE 0 args,rin,[]⟩) (exitQD tb fn κ (nf+1) E u1 u2 v1 v2 (gQ κ Q))):FG P f args rin κ Q:=by
 refine ⟨⟨fn,hf,hname,by rw [hb];rfl⟩,?_⟩
 intro K Z ν w vals h1 hr hm hrs hzk hkl
 have hgood:=good_enter (n:=fn.ntmps) hN h1 hr hm hrs hzk hkl
 refine CallsIn.calls (F:=FF none) (n:=0) (callsIn_of_wp_marks (F:=FF none) (n:=0) (args:=vals) (w:=w) hf hb trivial (wpIn_mono (h (Zog hr) 0 K Z ν w _ hgood) ?_)) (fun k d hd=>by cases hd)
 rintro e a' w' ⟨Z',ν',σ',hst,hν,hg,hq⟩
 -- the end, in a state without deferred calls
 have fin:∀ (cs:CS) (l:List AV) (Z2:Nat→Prop) (w2:World) (ν2:Nat→Value) (m2:Nat) (rs2:Rs),evRes tb cs fn.results.toList=some l→gQ κ Q cs (resV l)→κ≤m2→Step K Z w Z2 w2→(∀ k,k < κ→ν2 k=ν k)→Good (un K Z2) Z2 fn.ntmps w2 ν2 ⟨ltK m2,lke cs.env,rs2,[]⟩ { a' with defers:=[] }→Zmn cs.rs rs2 →
   LeavesInM (FF none) 0 P fn a'.tmps (fun e w'=>∃ (y:Value) (Z':Nat→Prop) (ν':Nat→Value) (v:AV) (μ':Nat→Bool) (rs':Rs),e=.returned y∧Step K Z w Z' w'∧(∀ k,(ν' k).oneCell'=true)∧(∀ k,k < κ→ν' k=ν k)∧(∀ k,k < κ→μ' k=true) ∧
    R Z' w' v ν' true [y]∧men μ' v=true∧GoodRs (un K Z') Z' w' ν' μ' rs'∧(∀ b,Z' b→b < w'.heap.size)∧∃ g:GR,Q g∧v=g.val∧μ'=ltK g.m∧κ≤g.m∧rs'=lkr g.rs) [] .returning w2:=by
  rintro cs l Z2 w2 ν2 m2 rs2 hev ⟨g,ρ,hQ,G⟩ hκm hs2 hν2 hg2 hnd
  obtain ⟨y,hy,hry,hmy⟩:=results_ok htb hg2 rfl hnd hev
  show ∃ v,(results fn a'.tmps).run P w2=.ok v w2∧_
  refine ⟨y,hy,y,Z2,fun k=>ν2 (rhoL ρ k),g.val,ltK g.m,lkr g.rs,rfl,hs2,fun k=>hg2.one _,fun k hk=>by show ν2 (rhoL ρ k)=ν k;rw [G.id k hk];exact hν2 k hk,fun k hk=>by show Nat.blt k g.m=true;rw [Nat.blt_eq];have:=G.le;omega,R_ren.1 (G.val _ _ _ _ hry),G.mval,?_,fun b hb=>hg2.kl b (hg2.zk b hb),g,hQ,rfl,rfl,G.le,rfl⟩
  obtain ⟨Ft,hF⟩:=hg2.rs
  refine ⟨fun k=>Ft (rhoL ρ k),fun k B hk=>?_⟩
  obtain ⟨a1,a2,a3,a4⟩:=G.rs k B hk
  have hk2:=hnd _ _ a4 (Ziz a3)
  obtain ⟨g1,g2,g3,g4,g5⟩:=hF _ _ hk2
  refine ⟨by show Nat.blt k g.m=true;rw [Nat.blt_eq];exact a1,a2,sat_ren.1 g3,g4,fun k' B' hne hk'=>?_⟩
  obtain ⟨b1,b2,b3,b4⟩:=G.rs k' B' hk'
  exact g5 _ _ (fun e=>hne (G.inj k k' B B' hk hk' e)) (hnd _ _ b4 (Ziz b3))
 -- what is deferred
 have dfo:∀ (cs:CS) (kd k1 k2:Nat),σ'=cs.st→cs.ms=[kd]→lkr cs.rs kd=some (.sem [kd,k1,k2] (dfA (nf+1)))→a'.defers=[{ target:=.fn (.func (nf+1)) #[ν' k1,ν' k2],args := #[] }]:=by
  intro cs kd k1 k2 e1 e2 e3
  subst e1
  have hd:=hg.ds
  have hd:a'.defers=cs.ms.flatMap (fun k=>Ze5 (ν' k)):=hd
  obtain ⟨Ft,hF⟩:=hg.rs
  obtain ⟨y,z,hyz⟩:=sem_now (K:=K) (hF kd _ e3).2.2.1
  simp only [List.map_cons,List.map_nil,List.cons.injEq,and_true] at hyz
  obtain ⟨h1,h2,h3⟩:=hyz
  rw [hd,e2]
  simp only [List.flatMap_cons,List.flatMap_nil,List.append_nil,h1,h2,h3]
  rfl
 obtain ⟨fn',hfn',hname',hbody'⟩:=hfn
 have hinv:∀ (y z:Value) (w:World),(invoke (.fn (.func (nf+1)) #[y,z]) #[]).run P w=.ok (.enter (nf+1) #[y,z]) w:=by
  intro y z w
  simp [invoke,callFunc,hfn',Sem.run_bind,Result.andThen,Sem.run,program]
  have hname'' : ¬ fn'.name = "runtime.NumGoroutine" := by simpa using hname'
  cases hb:fn'.body with
  |none=>rw [hb] at hbody';cases hbody'
  |some c=>simp [hname'',hb,Sem.run]
 have key:∀ (cs:CS) (l:List AV) (kd k1 k2:Nat),σ'=cs.st→evRes tb cs fn.results.toList=some l→cs.ms=[kd]→lkr cs.rs kd=some (.sem [kd,k1,k2] (dfA (nf+1)))→κ≤cs.m→gQ κ Q cs (resV l) →
   LeavesInM (FF none) 0 P fn a'.tmps (fun e w'=>∃ (y:Value) (Z':Nat→Prop) (ν':Nat→Value) (v:AV) (μ':Nat→Bool) (rs':Rs),e=.returned y∧Step K Z w Z' w'∧(∀ k,(ν' k).oneCell'=true)∧(∀ k,k < κ→ν' k=ν k)∧(∀ k,k < κ→μ' k=true) ∧
    R Z' w' v ν' true [y]∧men μ' v=true∧GoodRs (un K Z') Z' w' ν' μ' rs'∧(∀ b,Z' b→b < w'.heap.size)∧∃ g:GR,Q g∧v=g.val∧μ'=ltK g.m∧κ≤g.m∧rs'=lkr g.rs) a'.defers .returning w':=by
  intro cs l kd k1 k2 e1 e2 e3 e4 e5 e6
  rw [dfo cs kd k1 k2 e1 e3 e4]
  subst e1
  refine ⟨by simp,.inr ⟨(fun h=>by cases h),.func (nf+1),#[ν' k1,ν' k2],nf+1,#[ν' k1,ν' k2],rfl,hinv _ _ _,fun g _=>trivial,CallsDIn.mono (hret w' (ν' k1) (ν' k2)) ?_⟩⟩
  rintro e u' w2 ⟨⟨v,rfl⟩,hu,rfl⟩
  show LeavesInM _ _ _ _ _ _ [] (settle u') _
  rw [hu]
  refine fin cs l Z' w2 ν' cs.m (lkr cs.rs) e2 e6 e5 hst hν ?_ (fun k B hk _=>hk)
  exact ⟨hg.size,hg.one,hg.env,hg.rs,hg.zk,hg.kl,rfl,fun k hk=>by cases hk⟩
 cases e with
 |normal=>obtain ⟨cs,l,kd,k1,k2,e1,e2,e3,e4,e5,e6⟩:=hq;exact key cs l kd k1 k2 e1 e2 e3 e4 e5 e6
 |ret=>obtain ⟨cs,l,kd,k1,k2,e1,e2,e3,e4,e5,e6⟩:=hq;exact key cs l kd k1 k2 e1 e2 e3 e4 e5 e6
 |panic ch =>
  obtain ⟨hE,cs,l,kd,k1,k2,e1,e3,e4,b1,b2,hne,e5,e2,e6⟩:=hq
  show LeavesInM _ _ _ _ _ _ a'.defers _ _
  rw [dfo cs kd k1 k2 e1 e3 e4]
  subst e1
  obtain ⟨Ft,hF⟩:=id hg.rs
  have lt1:k1 < cs.m:=by
   have:=(hF k1 _ b1).1
   have this:ltK cs.m k1=true:=this
   simpa only [ltK,Nat.blt_eq] using this
  have lt2:k2 < cs.m:=by
   have:=(hF k2 _ b2).1
   have this:ltK cs.m k2=true:=this
   simpa only [ltK,Nat.blt_eq] using this
  refine ⟨by simp,.inr ⟨(fun h=>by cases h),.func (nf+1),#[ν' k1,ν' k2],nf+1,#[ν' k1,ν' k2],rfl,hinv _ _ _,fun g _=>trivial,CallsDIn.mono (hpan ch (un K Z') Z' ν' w' cs.m k1 k2 cs.rs hE hg.one hg.rs hg.zk hg.kl lt1 lt2 hne b1 b2) ?_⟩⟩
  rintro e u' w2 ⟨⟨v,rfl⟩,hu,Z2,ν2,m2,rs2,hs2,hν2,ho2,hg2,hm2,hkl2,hnd2⟩
  show LeavesInM _ _ _ _ _ _ [] (settle u') _
  rw [hu]
  have hs3:=hst.trans hs2
  have hwide:∀ k,ltK cs.m k=true→ltK m2 k=true:=fun k hk=>by simp only [ltK,Nat.blt_eq] at hk ⊢;omega
  refine fin ⟨cs.m,cs.env,(k1,some (.box v1)) :: (k2,some (.box v2)) :: cs.rs,[]⟩ l Z2 w2 ν2 m2 rs2 (e2 _) e6 (by omega) hs3 (fun k hk=>(hν2 k (by omega)).trans (hν k hk)) ?_ hnd2
  rw [Zki hs2.le] at hg2 hkl2
  exact ⟨hg.size,ho2,fun s=>⟨Zdt hwide (hg.env s).1,R_nu (fun k hk=>hν2 k (by have hk:Nat.blt k cs.m=true:=hk;simpa only [Nat.blt_eq] using hk)) (hg.env s).1 (Zbc hs2.le (fun b hb=>hs2.ext.block b (.inr hb)) (hg.env s).2)⟩,hg2,fun b hb=>.inr hb,hkl2,rfl,fun k hk=>by cases hk⟩
 |_=>exact hq.elim
end
open Go
section
variable {P:Program} {ro:Option Nat} {N κ:Nat} {tb:Nat→Option TI} {sp:Nat→Option Spec} {ops:Array Oper}
def awpD (P:Program) (ro:Option Nat) (N κ:Nat) (ops:Array Oper) (k:Nat) (σ:St) (Q:Exit→St→Prop):Prop :=
 ∀ n K Z ν w a,Good K Z N w ν σ a→∀ (fuel:Nat) (listed:Array Bool),listed.size=ops.size→(∀ i,i < k→listed.getD i true=true)→(∀ i,k≤i→i < ops.size→listed.getD i true=false)→ops.size - k≤fuel →
  wpAnyIn (FF ro) n P .any ops (Post N κ K Z w ν Q) fuel listed a w
def Zm1 (ops:List Oper):Bool :=
 let A:=ancs ops []
 (List.range ops.length).all fun i =>
  ((A.getD i []).all fun j=>match ops[i]? with|some o=>(Zb3 o).any (fun p=>Nat.beq p j || ((A.getD p []).any fun q=>Nat.beq q j)) && Nat.blt j i|none=>false) &&
  (match ops[i]? with|some o=>(Zb3 o).all fun p=>Nat.blt p i|none=>false)
def Zns (ops:List Oper) (k n:Nat) (l:List Item):Bool :=
 let A:=ancs ops []
 ((List.range n).all fun i=>(List.range i).all fun j=>((A.getD (k+i) []).any fun q=>Nat.beq q (k+j)) || Zke (Zby l j) (Zby l i)) &&
 ((List.range (ops.length - (k+n))).all fun i=>(List.range n).all fun j=>(A.getD (k+n+i) []).any fun q=>Nat.beq q (k+j))
structure AncOK (ops:Array Oper):Prop where
 up:∀ i,i < ops.size→∀ o,ops[i]? = some o→(∀ j,j∈(ancs ops.toList []).getD i []→(∃ p,p∈Zb3 o∧(p=j∨j∈(ancs ops.toList []).getD p []))∧j < i)∧(∀ p,p∈Zb3 o→p < i)
theorem Zl7 (hc:Zm1 ops.toList=true):AncOK ops:=by
 refine ⟨fun i hi o ho=>?_⟩
 simp only [Zm1,List.all_eq_true,List.mem_range,Bool.and_eq_true,Array.length_toList] at hc
 obtain ⟨h1,h2⟩:=hc i hi
 have ho':ops.toList[i]? = some o:=by simpa using ho
 rw [ho'] at h1 h2
 simp only [List.all_eq_true,Nat.blt_eq] at h2
 refine ⟨fun j hj=>?_,h2⟩
 have:=h1 j hj
 simp only [Bool.and_eq_true,List.any_eq_true,Bool.or_eq_true,Nat.blt_eq] at this
 obtain ⟨⟨p,hp,hpj⟩,hlt⟩:=this
 refine ⟨⟨p,hp,?_⟩,hlt⟩
 rcases hpj with h|⟨q,hq,h⟩
 ·exact .inl (Nat.eq_of_beq_eq_true h)
 ·exact .inr (Nat.eq_of_beq_eq_true h▸hq)
def Zj7 (ops:Array Oper) (listed:Array Bool):Prop:=∀ i o,ops[i]? = some o→listed.getD i true=true→∀ p,p∈Zb3 o→listed.getD p true=true
theorem Zc6 (hA:AncOK ops) {listed:Array Bool} (hcl:Zj7 ops listed):∀ i,i < ops.size→∀ o,ops[i]? = some o→(∀ p,p∈Zb3 o→listed.getD p true=true)→∀ j,j∈(ancs ops.toList []).getD i []→listed.getD j true=true:=by
 intro i
 induction i using Nat.strongRecOn with
 |_ i ih =>
  intro hi o ho hp j hj
  obtain ⟨⟨p,hpm,hpj⟩,hlt⟩:=(hA.up i hi o ho).1 j hj
  rcases hpj with rfl|hpj
  ·exact hp p hpm
  ·have hpi:=(hA.up i hi o ho).2 p hpm
   have hps:p < ops.size:=by omega
   exact ih p hpi hps ops[p] (Array.getElem?_eq_getElem hps) (hcl p _ (Array.getElem?_eq_getElem hps) (hp p hpm)) j hpj
theorem Zcv {listed:Array Bool} {i:Nat} (hi:i∈Region.ready .any ops listed):i < ops.size∧listed.getD i true=false∧∀ o,ops[i]? = some o→∀ p,p∈Zb3 o→listed.getD p true=true:=by
 simp only [Region.ready,List.mem_filter,List.mem_range,Bool.and_eq_true,Bool.not_eq_true'] at hi
 obtain ⟨h1,h2,h3⟩:=hi
 refine ⟨h1,h2,fun o ho p hp=>?_⟩
 rw [ho] at h3
 simp only [Option.map_some,Option.getD_some] at h3
 simp only [Zb3,List.mem_map,List.mem_filter] at hp
 obtain ⟨e,⟨he,hb⟩,rfl⟩:=hp
 have:=(Array.all_eq_true_iff_forall_mem.1 h3) e (by simpa using he)
 rw [hb] at this
 simp only [Bool.not_true,Bool.false_or] at this
 cases hg:listed[e.on]? with
 |none=>simp [Array.getD_eq_getD_getElem?,hg]
 |some x=>simp [Array.getD_eq_getD_getElem?,hg] at this ⊢;exact this
theorem Zgr {listed:Array Bool} {i:Nat} {o:Oper} (ho:ops[i]? = some o) (hl:listed.getD i true=false) (hp:∀ p,p∈Zb3 o→p < listed.size∧listed.getD p true=true):i∈Region.ready .any ops listed:=by
 have hi:i < ops.size:=(Array.getElem?_eq_some_iff.1 ho).1
 simp only [Region.ready,List.mem_filter,List.mem_range,Bool.and_eq_true,Bool.not_eq_true']
 refine ⟨hi,hl,?_⟩
 rw [ho]
 simp only [Option.map_some,Option.getD_some]
 refine Array.all_eq_true_iff_forall_mem.2 fun e he=>?_
 cases hb:Region.binds .any e with
 |false=>rfl
 |true =>
  obtain ⟨h1,h2⟩:=hp e.on (List.mem_map.2 ⟨e,List.mem_filter.2 ⟨by simpa using he,hb⟩,rfl⟩)
  simp [Array.getD_eq_getD_getElem?,Array.getElem?_eq_getElem h1] at h2 ⊢
  exact h2
theorem Zd5 {listed:Array Bool} {i j:Nat} (hi:i < listed.size):((listed.setIfInBounds i true).getD j true=true↔(j=i∨listed.getD j true=true)):=by
 simp only [Array.getD_eq_getD_getElem?,Array.getElem?_setIfInBounds]
 by_cases h:i=j
 ·subst h;simp [hi]
 ·simp [h,Ne.symm h]
theorem Zhk {listed:Array Bool} {i j:Nat} (hi:i < listed.size):((listed.setIfInBounds i true).getD j true=false↔(j≠i∧listed.getD j true=false)):=by
 have:=Zd5 (j:=j) hi
 cases h:(listed.setIfInBounds i true).getD j true with
 |true =>
  simp only [h,true_iff] at this
  refine ⟨fun hh=>(by cases hh),fun hh=>?_⟩
  rcases this with e|e
  ·exact absurd e hh.1
  ·rw [e] at hh;exact absurd hh.2 (by simp)
 |false =>
  rw [h] at this
  simp only [Bool.false_eq_true,false_iff,not_or] at this
  exact ⟨fun _=>⟨this.1,by cases hx:listed.getD j true with|false=>rfl|true=>exact absurd hx this.2⟩,fun _=>rfl⟩
theorem run_seg {Q:Exit→St→Prop} {σ':St} (k n':Nat) (hkn:k+n'≤ops.size) (l:List Item) (hA:Zm1 ops.toList=true) (hc:Zns ops.toList k n' l=true) (hop:∀ i,i < n'→∃ o,ops[k+i]? = some o∧Zlu P ro N ops o (Zby l i)) (hend:awpD P ro N κ ops (k+n') σ' Q) :
  ∀ (fuel:Nat) (listed:Array Bool) (L:List Nat) (σ:St),listed.size=ops.size→L.length+(ops.size - (k+n'))≤fuel→(∀ i,i∈L↔(k≤i∧i < k+n')∧listed.getD i true=false)→(∀ i,i < k→listed.getD i true=true)→(∀ i,k+n'≤i→i < ops.size→listed.getD i true=false)→L.Pairwise (· < ·) →
   Zj7 ops listed→Zno κ σ→Zdh N (fun x=>Zby l (x - k)) L σ σ'→∀ n K Z ν w a,Good K Z N w ν σ a→wpAnyIn (FF ro) n P .any ops (Post N κ K Z w ν Q) fuel listed a w:=by
 have hA:=Zl7 hA
 simp only [Zns,Bool.and_eq_true,List.all_eq_true,List.mem_range,Bool.or_eq_true,List.any_eq_true,Array.length_toList] at hc
 obtain ⟨hc1,hc2⟩:=hc
 have hap0:∀ i j,k≤j→j < i→i < k+n'→j∈(ancs ops.toList []).getD i []∨Apart (Zby l (j - k)) (Zby l (i - k)):=by
  intro i j h1 h2 h3
  have:=hc1 (i - k) (by omega) (j - k) (by omega)
  rw [show k+(i - k)=i from by omega,show k+(j - k)=j from by omega] at this
  rcases this with ⟨q,hq,h⟩|h
  ·exact .inl (Nat.eq_of_beq_eq_true h▸hq)
  ·exact .inr (Zjc h)
 have hlate:∀ i j,k≤j→j < k+n'→k+n'≤i→i < ops.size→j∈(ancs ops.toList []).getD i []:=by
  intro i j h1 h2 h3 h4
  obtain ⟨q,hq,h⟩:=hc2 (i - (k+n')) (by omega) (j - k) (by omega)
  rw [show k+n'+(i - (k+n'))=i from by omega] at hq
  rw [show k+(j - k)=j from by omega] at h
  exact Nat.eq_of_beq_eq_true h▸hq
 intro fuel
 induction fuel with
 |zero =>
  intro listed L σ hsz hlen hL hlo hhi hpw hcl hh hr n K Z ν w a hg
  obtain rfl:L=[]:=List.eq_nil_of_length_eq_zero (by omega)
  obtain rfl:σ=σ':=hr
  refine hend n K Z ν w a hg 0 listed hsz (fun i hi=>?_) hhi (by simpa using hlen)
  by_cases hik:i < k
  ·exact hlo i hik
  ·cases h:listed.getD i true with
   |true=>rfl
   |false=>exact absurd ((hL i).2 ⟨⟨by omega,hi⟩,h⟩) (by simp)
 |succ fuel ih =>
  intro listed L σ hsz hlen hL hlo hhi hpw hcl hh hr n K Z ν w a hg
  cases hLe:L with
  |nil =>
   subst hLe
   obtain rfl:σ=σ':=hr
   refine hend n K Z ν w a hg _ listed hsz (fun i hi=>?_) hhi (by simpa using hlen)
   by_cases hik:i < k
   ·exact hlo i hik
   ·cases h:listed.getD i true with
    |true=>rfl
    |false=>exact absurd ((hL i).2 ⟨⟨by omega,hi⟩,h⟩) (by simp)
  |cons i0 L0 =>
  refine ⟨fun hnil=>?_,fun i hi=>?_⟩
  ·exfalso
   rw [hLe] at hL hpw
   obtain ⟨⟨hi1,hi2⟩,hl⟩:=(hL i0).1 List.mem_cons_self
   have hs:i0 < ops.size:=by omega
   have:i0∈Region.ready .any ops listed:=Zgr (Array.getElem?_eq_getElem hs) hl fun p hp=>by
    have hpi:=(hA.up i0 hs _ (Array.getElem?_eq_getElem hs)).2 p hp
    refine ⟨by omega,?_⟩
    cases hpl:listed.getD p true with
    |true=>rfl
    |false =>
     by_cases hpk:p < k
     ·rw [hlo p hpk] at hpl;cases hpl
     have hmem:=(hL p).2 ⟨⟨by omega,by omega⟩,hpl⟩
     rcases List.mem_cons.1 hmem with rfl|hmem
     ·omega
     ·have:=List.rel_of_pairwise_cons hpw hmem;omega
   rw [hnil] at this
   cases this
  ·obtain ⟨h1,h2,h3⟩:=Zcv hi
   have hik:k≤i:=by
    rcases Nat.lt_or_ge i k with h|h
    ·rw [hlo i h] at h2;cases h2
    ·exact h
   have hin:i < k+n':=by
    rcases Nat.lt_or_ge i (k+n') with h|h
    ·exact h
    ·exfalso
     rw [hLe] at hL
     obtain ⟨⟨b1,b2⟩,b3⟩:=(hL i0).1 List.mem_cons_self
     have:=Zc6 hA hcl i h1 _ (Array.getElem?_eq_getElem h1) (h3 _ (Array.getElem?_eq_getElem h1)) i0 (hlate i i0 b1 b2 h h1)
     rw [this] at b3;cases b3
   obtain ⟨o,ho,hrun⟩:=hop (i - k) (by omega)
   rw [show k+(i - k)=i from by omega] at ho
   have hiL:=(hL i).2 ⟨⟨hik,hin⟩,h2⟩
   clear hLe
   obtain ⟨A,B,rfl⟩:=List.append_of_mem hiL
   have hA1:∀ j,j∈A→j < i:=fun j hj=>by
    rw [List.pairwise_append] at hpw
    exact hpw.2.2 j hj i List.mem_cons_self
   have hap:∀ j,j∈A→Apart (Zby l (j - k)) (Zby l (i - k)):=by
    intro j hj
    have hjL:=(hL j).1 (List.mem_append_left _ hj)
    rcases hap0 i j hjL.1.1 (hA1 j hj) hin with h|h
    ·have hd:=Zc6 hA hcl i h1 o ho (h3 o ho) j h
     rw [hd] at hjL
     cases hjL.2
    ·exact h
   obtain ⟨f1,r1⟩:=Zgs A σ σ' hap hr
   unfold wpOpIn
   simp only [ho]
   refine hrun n K Z ν w a σ hg f1 _ _ ?_
   intro Z1 ν1 w1 a1 hs hν hg1
   have hi2:i < listed.size:=by omega
   have hnd:i ∉ A∧i ∉ B:=by
    have hne:(A++i :: B).Pairwise (· ≠ ·):=hpw.imp fun h=>Nat.ne_of_lt h
    rw [List.pairwise_append] at hne
    exact ⟨fun h=>hne.2.2 i h i List.mem_cons_self rfl,fun h=>List.rel_of_pairwise_cons hne.2.1 h rfl⟩
   have:=ih (listed.setIfInBounds i true) (A++B) _ (by simpa using hsz) (by simp at hlen ⊢;omega) (fun j=>?_) (fun j hj=>(Zd5 hi2).2 (.inr (hlo j hj))) (fun j hj1 hj2=>(Zhk hi2).2 ⟨by omega,hhi j hj1 hj2⟩) ?_ ?_ (Zgj hh) r1 n _ _ ν1 w1 a1 hg1
   ·exact run_any.wpAnyIn_mono' this fun e a' w' hp=>hp.trans hs (fun k hk=>hν k (hh k hk))
   ·rw [Zhk hi2]
    constructor
    ·intro hj
     have hj':j∈A++i :: B:=by
      rcases List.mem_append.1 hj with h|h
      ·exact List.mem_append_left _ h
      ·exact List.mem_append_right _ (List.mem_cons_of_mem _ h)
     obtain ⟨q1,q2⟩:=(hL j).1 hj'
     refine ⟨q1,?_,q2⟩
     rintro rfl
     rcases List.mem_append.1 hj with h|h
     ·exact hnd.1 h
     ·exact hnd.2 h
    ·rintro ⟨q1,q2,q3⟩
     have:=(hL j).2 ⟨q1,q3⟩
     rcases List.mem_append.1 this with h|h
     ·exact List.mem_append_left _ h
     ·rcases List.mem_cons.1 h with h|h
      ·exact absurd h q2
      ·exact List.mem_append_right _ h
   ·exact hpw.sublist (List.Sublist.append (List.Sublist.refl A) (List.sublist_cons_self i B))
   ·intro j oj hoj hlj p hp
    rw [Zd5 hi2]
    rcases (Zd5 hi2).1 hlj with rfl|h
    ·exact .inr (h3 oj hoj p hp)
    ·exact .inr (hcl j oj hoj h p hp)
theorem closed_of {k:Nat} {listed:Array Bool} (hA:AncOK ops) (h1:∀ i,i < k→listed.getD i true=true) (h2:∀ i,k≤i→i < ops.size→listed.getD i true=false):Zj7 ops listed:=by
 intro i o ho hl p hp
 have hi:i < ops.size:=(Array.getElem?_eq_some_iff.1 ho).1
 have hik:i < k:=by
  rcases Nat.lt_or_ge i k with h|h
  ·exact h
  ·rw [h2 i h hi] at hl;cases hl
 exact h1 p (Nat.lt_trans ((hA.up i hi o ho).2 p hp) hik)
theorem awpD_text (htb:Zdf P tb) (hmz:∀ t i,tb t=some i→men noK i.zero=true) (hsp:SpOK P sp) (ch:Nat→Bool) (k:Nat) {m:Nat} {all os post:List Oper} (pre:List Oper) {env:List (Nat × AV)} {l:List (Nat × Option Blk)} {ms:List Nat} {Q:Exit→St→Prop} (hall:all=pre++(os++post)) (hk:pre.length=k) (hN:Zdq N os=true) (hκ:Nat.ble κ m=true) (hA:Zm1 all=true)
  (hd:Zns all k os.length (Zb4 tb sp ch m all os k env l).its=true)
  (h:∀ m' e' l' ob,evOut tb sp ch m all os k ⟨m+k,env,l,True⟩=⟨m',e',l',ob⟩→Ob ob∧awpD P ro N κ all.toArray (k+os.length) (CS.st ⟨m',e',l',ms⟩) Q):awpD P ro N κ all.toArray k (CS.st ⟨m+k,env,l,ms⟩) Q:=by
 obtain ⟨hob,hq⟩:=h _ _ _ _ rfl
 obtain ⟨h1,h2,h3,h4⟩:=Zf5 ch m all os k (m+k) env l True hob
 rw [h1,h2,h4] at hq
 obtain ⟨g1,g2,μ',g3,g4,g5⟩:=Zf6 (ro:=ro) (N:=N) htb hmz hsp ch m all ms os k env l (ltK (m+k)) hN (fun j hj=>by show Nat.blt j (m+k)=false;cases hb:Nat.blt j (m+k) with|false=>rfl|true=>rw [Nat.blt_eq] at hb;omega) h3
 have hsize:k+os.length≤all.toArray.size:=by rw [List.size_toArray,hall];simp;omega
 intro n K Z ν w a hg fuel listed hsz hlo hhi hfuel
 refine run_seg k os.length hsize (Zb4 tb sp ch m all os k env l).its (by simpa using hA) (by simpa using hd) (fun i hi=>?_) (σ':=⟨μ',lke (Zb4 tb sp ch m all os k env l).env,lkr (Zb4 tb sp ch m all os k env l).l,ms⟩) ?_ fuel listed (List.range' k os.length) (CS.st ⟨m+k,env,l,ms⟩) hsz (by rw [List.length_range'];omega) (fun i=>?_) hlo (fun i hi=>hhi i (by omega)) (by simpa using List.pairwise_lt_range' (s:=k) (n:=os.length)) (closed_of (Zl7 (by simpa using hA)) hlo hhi) (fun j hj=>?_) g5 n K Z ν w a hg
 ·refine ⟨os[i],?_,g2 _ _ (List.getElem?_eq_getElem hi)⟩
  rw [List.getElem?_toArray,hall,List.getElem?_append_right (by omega),hk,show k+i - k=i from by omega,List.getElem?_append_left hi,List.getElem?_eq_getElem hi]
 ·intro n K Z ν w a hg
  refine hq n K Z ν w a (hg.widen fun j hj=>?_)
  show Nat.blt j (m+k+os.length)=true
  rw [Nat.blt_eq]
  rcases Nat.lt_or_ge j (m+k+os.length) with h|h
  ·exact h
  ·rw [g3 j h] at hj;cases hj
 ·rw [List.mem_range']
  constructor
  ·rintro ⟨q,hq,rfl⟩
   exact ⟨⟨by omega,by omega⟩,hhi _ (by omega) (by rw [List.size_toArray,hall];simp;omega)⟩
  ·rintro ⟨⟨h1,h2⟩,_⟩
   exact ⟨i - k,by omega,by omega⟩
 ·show Nat.blt j (m+k)=true
  rw [Nat.blt_eq]
  have:=Nat.le_of_ble_eq_true hκ
  omega
theorem awpD_one (k:Nat) {all:List Oper} {o:Oper} {σ:St} {Q:Exit→St→Prop} (ho:all[k]? = some o) (hgd:o.guard.isNone=true) (hA:Zm1 all=true) (hd:Zns all k 1 []=true)
  (h:awpL P ro N κ [o] σ (Zfe (fun s=>awpD P ro N κ all.toArray (k+1) s Q) Q)):awpD P ro N κ all.toArray k σ Q:=by
 intro n K Z ν w a hg fuel listed hsz hlo hhi hfuel
 have hA:=Zl7 (ops:=all.toArray) (by simpa using hA)
 have ho':all.toArray[k]? = some o:=by rw [List.getElem?_toArray];exact ho
 have hks:k < all.toArray.size:=(Array.getElem?_eq_some_iff.1 ho').1
 have hcl:=closed_of hA hlo hhi
 simp only [Zns,Bool.and_eq_true,List.all_eq_true,List.mem_range,Bool.or_eq_true,List.any_eq_true] at hd
 cases fuel with
 |zero=>omega
 |succ fuel =>
  have hh:=h n K Z ν w a hg
  have hw0:Region.wanted o (yielded #[] a.tmps)=true:=Za8 hgd _
  simp only [wpListIn,hw0,if_true] at hh
  refine ⟨fun hnil=>?_,fun i hi=>?_⟩
  ·exfalso
   have:k∈Region.ready .any all.toArray listed:=Zgr ho' (hhi k (Nat.le_refl _) hks) fun p hp=>by
    have hpi:=(hA.up k hks o ho').2 p hp
    exact ⟨by omega,hlo p hpi⟩
   rw [hnil] at this
   cases this
  ·obtain ⟨h1,h2,h3⟩:=Zcv hi
   have hik:k≤i:=by
    rcases Nat.lt_or_ge i k with h|h
    ·rw [hlo i h] at h2;cases h2
    ·exact h
   have hie:i=k:=by
    rcases Nat.lt_or_ge k i with h|h
    ·exfalso
     obtain ⟨q,hq,he⟩:=hd.2 (i - (k+1)) (by rw [List.size_toArray] at h1;omega) 0 (by omega)
     rw [show k+1+(i - (k+1))=i from by omega] at hq
     have hq2:k∈(ancs all.toArray.toList []).getD i []:=by
      have he:=Nat.eq_of_beq_eq_true he
      rw [Nat.add_zero] at he
      rw [←he];simpa using hq
     have:=Zc6 hA hcl i h1 _ (Array.getElem?_eq_getElem h1) (h3 _ (Array.getElem?_eq_getElem h1)) k hq2
     rw [hhi k (Nat.le_refl _) hks] at this;cases this
    ·omega
   subst hie
   unfold wpOpIn
   have hw1:Region.wanted o (yielded all.toArray a.tmps)=true:=Za8 hgd _
   simp only [ho',hw1,if_true]
   have h2:o.wpIn (FF ro) n P a w (fun a' w'=>Post N κ K Z w ν (Zfe (fun s=>awpD P ro N κ all.toArray (i+1) s Q) Q) .normal a' w') (Post N κ K Z w ν (Zfe (fun s=>awpD P ro N κ all.toArray (i+1) s Q) Q)):=hh
   refine Zgf (fun a' w' hp=>?_) (fun e a' w' he hp=>?_) h2
   ·obtain ⟨Z',ν',σ',g1,g2,g3,g4⟩:=hp
    have hls:i < listed.size:=by omega
    refine run_any.wpAnyIn_mono' (g4 n _ _ ν' w' a' g3 fuel (listed.setIfInBounds i true) (by simpa using hsz) (fun j hj=>(Zd5 hls).2 ?_) (fun j hj1 hj2=>(Zhk hls).2 ⟨by omega,hhi j (by omega) hj2⟩) (by omega)) fun e a2 w2 hp=>hp.trans g1 g2
    rcases Nat.lt_succ_iff_lt_or_eq.1 hj with h|h
    ·exact .inr (hlo j h)
    ·exact .inl h
   ·obtain ⟨Z',ν',σ',g1,g2,g3,g4⟩:=hp
    refine ⟨Z',ν',σ',g1,g2,g3,?_⟩
    cases e<;>first|exact absurd rfl he|exact g4
theorem awpD_end {k:Nat} {σ:St} {Q:Exit→St→Prop} (hk:Nat.beq k ops.size=true) (h:Q .normal σ):awpD P ro N κ ops k σ Q:=by
 obtain rfl:=Nat.eq_of_beq_eq_true hk
 intro n K Z ν w a hg fuel listed hsz hlo hhi hfuel
 have hn:Region.ready .any ops listed=[]:=by
  refine List.eq_nil_iff_forall_not_mem.2 fun i hi=>?_
  obtain ⟨h1,h2,_⟩:=Zcv hi
  rw [hlo i h1] at h2;cases h2
 cases fuel with
 |zero=>exact ⟨hn,Zc2 hg h⟩
 |succ fuel=>exact ⟨fun _=>Zc2 hg h,fun i hi=>by rw [hn] at hi;cases hi⟩
theorem awp_drawD (hmo:P.follows .mixedOrders=true) {id:Nat} {σ:St} {Q:Exit→St→Prop} (h:awpD P ro N κ ops 0 σ Q):awp P ro N κ (.region id ops true) σ Q:=by
 intro n K Z ν w a hg
 refine wpIn_region_any hmo ?_
 have hstep:Step K Z w Z { w with drawn:=w.drawn+1 }:=⟨⟨rfl,rfl,rfl,Nat.le_refl _,fun _ _=>rfl⟩,fun _ h=>h,fun _ h=>.inl h⟩
 have hg1:=hg.drew (w.drawn+1)
 refine run_any.wpAnyIn_mono' (h n K Z ν _ a hg1 ops.size (Array.replicate ops.size false) (by simp) (fun i hi=>absurd hi (by omega)) (fun i _ hi=>by simp [Array.getD_eq_getD_getElem?,Array.getElem?_replicate,hi]) (by omega)) fun e a' w' hp=>?_
 have e:=Post.trans (N:=N) (κ:=κ) (K:=K) (Z:=Z) (w:=w) (ν:=ν) hstep (fun _ _=>rfl) (by rw [Zbt hg.zk];exact hp)
 exact e
end
end Go.Proofs.YtjcmlflljibikaaGreatDoor.Cal
