/- Own texts, merged. -/
import Derived.MapKept
import Derived.Test.YtjcmlflljibikaaGreatDoorS3
set_option linter.unusedVariables false
set_option linter.unusedSimpArgs false
open Nat (reduceAdd reduceSub reduceMul reduceEqDiff reduceLeDiff reduceLT)
namespace Go.Proofs.YtjcmlflljibikaaGreatDoor.Cal
open Go
section
variable {P:Program} {get:Operand→AV} {l:List (Nat × Option Blk)} {tb:Nat→Option TI}
theorem run_copy_gen {w:World} {t e:Nat} {i ie:TI} (ht:TOK P t i) (hk:i.k=.slc e) (he:TOK P e ie) (hsz:ie.size=1) {base A:Option Addr} {n cap m c:Nat} {ty:TypeId} {cs:List Value} (hcs:cs.length=Nat.min m n) (hA:∀ a,A=some a→∀ j v,cs[j]? = some v→w.cell? (a.add j)=some v) (hN:A=none→cs=[])
  {w':World} (hst:∀ a,base=some a→(storeCells a cs).run P w=.ok () w') (hbn:base=none→w'=w) :
  (Builtin.copy_ #[t,t] ty #[.slice base n cap,.slice A m c]).run P w=.ok (goInt cs.length) w':=by
 have hu:=ht.slc e hk
 have hl:(Builtin.firstCells 1 (Nat.min m n) (.slice A m c)).run P w=.ok cs.toArray w:=by
  cases A with
  |none=>rw [hN rfl];rfl
  |some a =>
   have:=run_loadCells_list (P:=P) w a cs (hA a rfl)
   simp only [Builtin.firstCells,Nat.mul_one,←hcs]
   exact this
 rw [←hcs] at hl
 have h1:(sizeOf e).run P w=.ok 1 w:=by rw [Zc9 he,hsz]
 cases base with
 |none =>
  obtain rfl:=hbn rfl
  simp [Builtin.copy_,Sem.run_bind,run_underlying hu,Builtin.lenOf,h1,hl,Result.andThen,←hcs]
 |some a =>
  simp [Builtin.copy_,Sem.run_bind,run_underlying hu,Builtin.lenOf,h1,hl,Result.andThen,←hcs,hst a rfl]
theorem opsem_copy {o:Oper} {t e:Nat} {i ie:TI} {x y:Operand} (ho:o.op=.call ⟨.builtin .copy,#[x,y],#[t,t]⟩) (ht:TOK P t i) (hk:i.k=.slc e) (he:TOK P e ie) (hsz:ie.size=1) {n m k:Nat} (hx0:get x=.own k) {rd:List (Nat × Blk)} {B B':Blk} (hrd0:(k,B)∈rd)
  (g:(Nat→Prop)→World→(Nat→Value)→Nat→List Value→Prop) (hs:∀ Z w ν y F,sat Z w ν y F B→row w y 1 n (g Z w ν) F)
  (g':(Nat→Prop)→World→(Nat→Value)→Nat→List Value→Prop) (hsrc:Zg2 rd (get y) 1 m g')
  (hs':∀ (Z:Nat→Prop) (w w':World) ν y F,(∀ b,Z b→w'.heap[b]? = w.heap[b]?)→row w' y 1 n (fun j es=>if j < min m n then g' Z w ν j es else g Z w ν j es) F→sat Z w' ν y F B')
  (hm':∀ μ,menB μ B→menB μ B'):OpSem P o get (.int .i64 (min m n:Nat)) rd [(k,some B')] none :=
 ⟨fun K Z ν w ev μ rs h1 hg hzk hkl hx hrd hkn=>by
  obtain ⟨rx,mx⟩:=hx x (by rw [ho];simp [Op.operands,Call.operands])
  obtain ⟨ry,my⟩:=hx y (by rw [ho];simp [Op.operands,Call.operands])
  obtain ⟨A,c,news,hsr⟩:=hsrc K Z ν w μ rs (ev y) h1 hg hrd ry
  have hexec:∀ (v:Value) (w':World),(Builtin.copy_ #[t,t] o.type #[ev x,ev y]).run P w=.ok v w'→(execOp ev o).run P w=.ok (.value v) w':=fun v w' h=>by
   simp [execOp,ho,resolve,invoke,builtin,Sem.run_bind,h,Result.andThen,Sem.run]
  rw [hx0] at rx
  have ex:=one1 rx
  have hrk:rs k=some B:=hrd _ hrd0
  obtain ⟨F0,s0,m0,u0,hF0,swap⟩:=Zgv hg hzk hkl hrk
  have hrow:=hs _ _ _ _ _ s0
  rw [←ex] at hrow
  have hnl:news.length=m:=by rw [hsr.len,Nat.mul_one]
  have hcs:(news.take (min m n)).length=Nat.min m n:=by rw [List.length_take,hnl];exact Nat.min_eq_left (Nat.min_le_left m n)
  have hA:∀ a,A=some a→∀ j v,(news.take (min m n))[j]? = some v→w.cell? (a.add j)=some v:=fun a ha j v hj=>by
   rw [List.getElem?_take] at hj
   split at hj
   ·exact hsr.rd a ha j v hj
   ·cases hj
  have hN:A=none→news.take (min m n)=[]:=fun ha=>by rw [hsr.nil ha];exact List.take_nil
  have hone:∀ u,u∈news.take (min m n)→u.oneCell'=true:=fun u hu=>hsr.one u (List.mem_of_mem_take hu)
  rw [hsr.val] at hexec
  have fin:∀ (w':World),(∀ y,¬ F0 y→y < w.heap.size→w'.heap[y]? = w.heap[y]?)→w'.heap.size=w.heap.size→w'.os=w.os→w'.tape=w.tape→w'.output=w.output →
    row w' (ev x) 1 n (fun j es=>if j < min m n then g' Z w ν j es else g Z w ν j es) F0→(Builtin.copy_ #[t,t] o.type #[ev x,.slice A m c]).run P w=.ok (goInt (min m n:Nat)) w' →
    ∃ y w' ν' Z',((execOp ev o).run P w=.ok (.value y) w'∨((execOp ev o).run P w=.ok .skip w'∧y=undef))∧Step K Z w Z' w'∧(∀ k,μ k=true→ν' k=ν k)∧(∀ k,(ν' k).oneCell'=true) ∧
     GoodRs (un K Z') Z' w' ν' (addK μ none) (updL rs [(k,some B')])∧R Z' w' (.int .i64 (min m n:Nat)) ν' true [y]∧men (addK μ none) (.int .i64 (min m n:Nat))=true∧(∀ b,Z' b→b < w'.heap.size):=by
   intro w' b1 b2 b3 b4 b5 b6 b7
   have hzw:∀ y,Z y→w'.heap[y]? = w.heap[y]?:=fun y hy=>b1 y (fun hf=>(hF0 y hf).1 (hzk y hy)) (hkl y (hzk y hy))
   refine ⟨_,w',ν,Z,.inl (hexec _ _ b7),⟨⟨b3,b4,b5,by omega,fun y hy=>b1 y (fun hf=>(hF0 y hf).1 hy) (hkl y hy)⟩,fun _ h=>h,fun _ h=>.inl h⟩,fun _ _=>rfl,h1,?_,rfl,rfl,fun y hy=>by rw [b2];exact hkl y (hzk y hy)⟩
   rw [Zbt hzk]
   have:=swap w' ν k B' F0 (by omega) b1 (fun _ _=>rfl) (.inl rfl) (hs' Z w w' ν (ν k) F0 hzw (by rw [←ex];exact b6)) (Zdo Zci (hm' μ m0)) (fun y hy=>⟨.inl hy,by rw [b2];exact (hF0 y hy).2⟩)
   rw [Zh9 u0,Zgp] at this
   exact this
  rcases hrow with ⟨e0,hn0,hFn⟩|⟨b,f,cap,cells,T,hxv,hc1,hc2,hh,hcsz,hFb,hel⟩
  ·subst hn0
   refine fin w (fun _ _ _=>rfl) rfl rfl rfl rfl (.inl ⟨e0,rfl,hFn⟩) ?_
   rw [e0]
   have:=run_copy_gen (base:=none) (cap:=0) (c:=c) (ty:=o.type) ht hk he hsz hcs hA hN (w':=w) (fun a ha=>by cases ha) (fun _=>rfl)
   rw [this,hcs]
  ·have hlen:(news.take (min m n)).length≤n:=by rw [hcs];exact Nat.min_le_right m n
   have hrun:=run_storeCells_at (P:=P) b f T (news.take (min m n)) 0 cells w hh (by omega) hone
   simp only [Nat.add_zero] at hrun
   have hnew:=setRow_heap w b cells (cells.toList.take f++news.take (min m n)++cells.toList.drop (f+(news.take (min m n)).length)).toArray T (0,0) hh
   refine fin _ (fun y hy _=>setRow_other w b y _ (fun e=>hy ((hFb y).2 e))) (by simp) rfl rfl rfl (.inr ⟨b,f,cap,_,T,hxv,hc1,hc2,hnew,by simp;omega,hFb,fun j hj=>?_⟩) ?_
   ·have hfl:f≤cells.size:=by omega
    have htk:(cells.toList.take f).length=f:=by simp;omega
    by_cases hjm:j < min m n
    ·refine ⟨(news.drop (j * 1)).take 1,by dsimp only;rw [if_pos hjm];exact hsr.el j (by omega),?_,fun i v hi=>?_⟩
     ·rw [List.length_take,List.length_drop,hnl];omega
     ·rw [List.getElem?_take] at hi
      split at hi
      ·rename_i hi0
       obtain rfl:i=0:=by omega
       rw [List.getElem?_drop] at hi
       simp only [List.getElem?_toArray]
       rw [List.append_assoc,List.getElem?_append_right (by omega),htk,show f+(j * 1+0) - f=j from by omega,List.getElem?_append_left (by rw [hcs];exact hjm),List.getElem?_take,if_pos hjm]
       rw [show j * 1+0=j from by omega] at hi
       exact hi
      ·cases hi
    ·obtain ⟨es,e1,e2,e3⟩:=hel j hj
     refine ⟨es,by dsimp only;rw [if_neg hjm];exact e1,e2,fun i v hi=>?_⟩
     have hi1:i < 1:=by
      rcases Nat.lt_or_ge i 1 with h|h
      ·exact h
      ·rw [List.getElem?_eq_none (by omega)] at hi;cases hi
     obtain rfl:i=0:=by omega
     have h3:=e3 0 v hi
     have hm2:(news.take (min m n)).length=min m n:=hcs
     simp only [List.getElem?_toArray]
     rw [List.append_assoc,List.getElem?_append_right (by omega),htk,List.getElem?_append_right (by omega),List.getElem?_drop]
     rw [show f+(news.take (min m n)).length+(f+(j * 1+0) - f - (news.take (min m n)).length)=f+(j * 1+0) from by omega]
     simpa using h3
   ·rw [hxv]
    have:=run_copy_gen (base:=some ⟨b,f,none⟩) (cap:=cap) (c:=c) (ty:=o.type) (w:=w) ht hk he hsz hcs hA hN (w':=_) (fun a ha=>by cases ha;exact hrun) (fun h=>by cases h)
    rw [this,hcs]⟩
def cpL {α:Type} (xs ys:List α):List α:=ys.take xs.length++xs.drop ys.length
theorem cpL_len {α:Type} {xs ys:List α}:(cpL xs ys).length=xs.length:=by
 simp only [cpL,List.length_append,List.length_take,List.length_drop];omega
theorem cpL_getD {α:Type} {xs ys:List α} {d:α} {j:Nat} (hj:j < xs.length):(cpL xs ys).getD j d=if j < min ys.length xs.length then ys.getD j d else xs.getD j d:=by
 simp only [cpL,List.getD_eq_getElem?_getD]
 split
 ·rename_i h
  rw [List.getElem?_append_left (by rw [List.length_take];omega),List.getElem?_take,if_pos hj]
 ·rename_i h
  rw [List.getElem?_append_right (by rw [List.length_take];omega),List.getElem?_drop,List.length_take]
  congr 2;omega
theorem cpL_all {α:Type} {xs ys:List α} (h:xs.length=ys.length):cpL xs ys=ys:=by
 unfold cpL;rw [h,List.take_length,←h,List.drop_length,List.append_nil]
def evCopy (tb:Nat→Option TI) (get:Operand→AV) (l:List (Nat × Option Blk)) (c:Call):Option EvR :=
 match c.args.toList,c.argTypes.toList with
 |[x,y],[t,t']=>if Nat.beq t t' then (match tb t with
  |some i=>match i.k with
   |.slc e=>match tb e with
    |some ie=>if Nat.beq ie.size 1 then (match get x with
     |.own k=>match lkr l k with
      |some (.ints xs)=>match srcI l (get y) with
       |some (ys,rd)=>some ⟨.int .i64 (min ys.length xs.length:Nat),(k,.ints xs) :: rd,[(k,some (.ints (cpL xs ys)))],none,True⟩
       |none=>none
      |some (.bools xs)=>match srcB l (get y) with
       |some (ys,rd)=>some ⟨.int .i64 (min ys.length xs.length:Nat),(k,.bools xs) :: rd,[(k,some (.bools (cpL xs ys)))],none,True⟩
       |none=>none
      |_=>none
     |_=>none) else none
    |none=>none
   |_=>none
  |none=>none) else none
 |_,_=>none
theorem evCopy_ok (htb:Zdf P tb) {o:Oper} {c:Call} (ho:o.op=.call c) (hc:c.callee=.builtin .copy) {kn:Nat} {r:EvR} (h:evCopy tb get l c=some r) (hob:r.ob):EvOK P o get l kn r:=by
 unfold evCopy at h
 split at h
 ·rename_i x y t t' ha hat
  split at h
  ·rename_i htt
   obtain rfl:=Nat.eq_of_beq_eq_true htt
   split at h
   ·rename_i i hi
    split at h
    ·rename_i e hk
     split at h
     ·rename_i ie he
      split at h
      ·rename_i hsz
       have hsz:=Nat.eq_of_beq_eq_true hsz
       have hco:o.op=.call ⟨.builtin .copy,#[x,y],#[t,t]⟩:=by
        rw [ho]
        obtain ⟨cal,args,ats⟩:=c
        simp only at hc ha hat
        subst hc
        have e1:args = #[x,y]:=by rw [←Array.toList_inj,ha]
        have e2:ats = #[t,t]:=by rw [←Array.toList_inj,hat]
        rw [e1,e2]
       split at h
       ·rename_i k hx
        split at h
        ·rename_i xs hk2
         split at h
         ·rename_i ys rd hy
          simp only [Option.some.injEq] at h
          subst h
          obtain ⟨s1,s2⟩:=Zji (rd':=(k,Blk.ints xs) :: rd) hy (fun p hp=>List.mem_cons_of_mem _ hp)
          refine ⟨opsem_copy hco (htb t i hi) hk (htb e ie he) hsz hx List.mem_cons_self (fun _ _ _=>Zdp xs) (fun Z w ν y F h=>h) (fun _ _ _=>Zdp ys) s1 ?_ (fun _ _=>trivial),Zcp hk2 s2,.inl rfl⟩
          intro Z w w' ν y F hz hrow
          show row w' y 1 (cpL xs ys).length _ F
          rw [cpL_len]
          refine Za3 (fun _ _=>rfl) (fun j es hj he=>?_) hrow
          rw [Zdp,cpL_getD hj]
          split at he
          ·rename_i hlt;rw [if_pos hlt];exact he
          ·rename_i hlt;rw [if_neg hlt];exact he
         ·cases h
        ·rename_i xs hk2
         split at h
         ·rename_i ys rd hy
          simp only [Option.some.injEq] at h
          subst h
          obtain ⟨s1,s2⟩:=Zjj (rd':=(k,Blk.bools xs) :: rd) hy (fun p hp=>List.mem_cons_of_mem _ hp)
          refine ⟨opsem_copy hco (htb t i hi) hk (htb e ie he) hsz hx List.mem_cons_self (fun _ _ _=>Zd0 xs) (fun Z w ν y F h=>h) (fun _ _ _=>Zd0 ys) s1 ?_ (fun _ _=>trivial),Zcp hk2 s2,.inl rfl⟩
          intro Z w w' ν y F hz hrow
          show row w' y 1 (cpL xs ys).length _ F
          rw [cpL_len]
          refine Za3 (fun _ _=>rfl) (fun j es hj he=>?_) hrow
          rw [Zd0,cpL_getD hj]
          split at he
          ·rename_i hlt;rw [if_pos hlt];exact he
          ·rename_i hlt;rw [if_neg hlt];exact he
         ·cases h
        ·cases h
       ·cases h
      ·cases h
     ·cases h
    ·cases h
   ·cases h
  ·cases h
 ·cases h
theorem evCopy_rd {c:Call} {r:EvR} (h:evCopy tb get l c=some r):RdIn l r.rd:=by
 unfold evCopy at h
 (repeat' split at h)<;>first
  |(cases h;done)
  |(simp only [Option.some.injEq] at h;subst h;first
    |exact Zcp (by assumption) (Zji (rd':=_) (by assumption) (fun _ hp=>hp)).2
    |exact Zcp (by assumption) (Zjj (rd':=_) (by assumption) (fun _ hp=>hp)).2)
/-! ### A fresh block that nobody will write -/
theorem Zku {o:Oper} {kn:Nat} {rd:List (Nat × Blk)} {wr:List (Nat × Option Blk)} {B:Blk} {u:AV} (hro:∀ (Z:Nat→Prop) (w:World) (ν:Nat→Value) (x:Value) (F:Nat→Prop),sat Z w ν x F B→(∀ y,F y→Z y)→R Z w u ν true [x]) (hu:men noK u=true) (hwr:lko wr kn=none)
  (h:OpSem P o get (.own kn) rd ((kn,some B) :: wr) (some kn)):OpSem P o get u rd wr (some kn) :=
 ⟨fun K Z ν w ev μ rs h1 hg hzk hkl hx hrd hkn=>by
  obtain ⟨y,w',ν',Z',hrun,hst,hν,h1',⟨Ft,hF⟩,hr,hm,hz⟩:=h.sem K Z ν w ev μ rs h1 hg hzk hkl hx hrd hkn
  have hfr:=hkn kn rfl
  have hk:updL rs ((kn,some B) :: wr) kn=some B:=by simp [updL,lko,Nat.beq_refl]
  obtain ⟨g1,g2,g3,g4,g5⟩:=hF kn B hk
  have hy:y=ν' kn:=one1 hr
  have hext:∀ b,Z' b→Z' b∨Ft kn b:=fun b h=>.inl h
  refine ⟨y,w',ν',fun b=>Z' b∨Ft kn b,hrun,⟨hst.ext,fun b hb=>.inl (hst.le b hb),fun b hb=>?_⟩,hν,h1',?_,?_,Zce hu,fun b hb=>?_⟩
  ·rcases hb with hb|hb
   ·exact hst.new b hb
   ·exact .inr fun hK=>(g4 b hb).1 (.inl hK)
  ·refine ⟨Ft,fun j b hj=>?_⟩
   have hne:j≠kn:=by
    rintro rfl
    unfold updL at hj
    rw [hwr] at hj
    obtain ⟨Fo,hFo⟩:=hg
    have:=(hFo j b hj).1
    rw [hfr] at this;cases this
   have hold:∀ j',j'≠kn→updL rs ((kn,some B) :: wr) j'=updL rs wr j':=fun j' h=>by
    unfold updL;simp only [lko,show Nat.beq j' kn=false from by cases hb:Nat.beq j' kn with|false=>rfl|true=>exact absurd (Nat.eq_of_beq_eq_true hb) h]
   have hj2:=(hold j hne).trans hj
   obtain ⟨f1,f2,f3,f4,f5⟩:=hF j b hj2
   refine ⟨f1,f2,Zbl hext (fun _ _=>rfl) (fun _ _=>rfl) f3,fun x hx=>⟨?_,(f4 x hx).2⟩,fun k' b' hne' hk'=>?_⟩
   ·rintro (h|h|h)
    ·exact (f4 x hx).1 (.inl h)
    ·exact (f4 x hx).1 (.inr h)
    ·exact f5 kn B hne hk x hx h
   ·by_cases hk2:k'=kn
    ·exfalso
     subst hk2
     unfold updL at hk'
     rw [hwr] at hk'
     obtain ⟨Fo,hFo⟩:=hg
     have:=(hFo k' b' hk').1
     rw [hfr] at this;cases this
    ·exact f5 k' b' hne' ((hold k' hk2).trans hk')
  ·rw [hy];exact hro _ _ _ _ _ (Zbl hext (fun _ _=>rfl) (fun _ _=>rfl) g3) (fun y hy=>.inr hy)
  ·rcases hb with hb|hb
   ·exact hz b hb
   ·exact (g4 b hb).2⟩
def evFz (kn:Nat):Option EvR→Option EvR
 |some ⟨.own k,rd,(k1,some B) :: wr,some k2,ob⟩=>if Nat.beq k kn && Nat.beq k1 kn && Nat.beq k2 kn && (lko wr kn).isNone then (match B with
  |.ints xs=>some ⟨.roI xs,rd,wr,some kn,ob⟩
  |.bools xs=>some ⟨.roB xs,rd,wr,some kn,ob⟩
  |.rowsR xs=>some ⟨.roII xs,rd,wr,some kn,ob⟩
  |_=>none) else none
 |_=>none
theorem evFz_ok {o:Oper} {kn:Nat} {e:Option EvR} {r:EvR} (h:evFz kn e=some r) (hob:r.ob) (he:∀ r',e=some r'→r'.ob→EvOK P o get l kn r'):EvOK P o get l kn r:=by
 unfold evFz at h
 split at h
 ·rename_i k rd k1 B wr k2 ob
  split at h
  ·rename_i hc
   simp only [Bool.and_eq_true,Option.isNone_iff_eq_none] at hc
   obtain ⟨⟨⟨c1,c2⟩,c3⟩,c4⟩:=hc
   obtain rfl:=Nat.eq_of_beq_eq_true c1
   obtain rfl:=Nat.eq_of_beq_eq_true c2
   obtain rfl:=Nat.eq_of_beq_eq_true c3
   split at h
   ·rename_i xs
    simp only [Option.some.injEq] at h
    subst h
    obtain ⟨h1,h2,h3⟩:=he _ rfl hob
    exact ⟨Zku (B:=.ints xs) (u:=.roI xs) (fun Z w ν x F hs hF=>Zfo (show row w x 1 xs.length (Zdp xs) F from hs) hF) rfl c4 h1,h2,.inr rfl⟩
   ·rename_i xs
    simp only [Option.some.injEq] at h
    subst h
    obtain ⟨h1,h2,h3⟩:=he _ rfl hob
    exact ⟨Zku (B:=.bools xs) (u:=.roB xs) (fun Z w ν x F hs hF=>Zfo (show row w x 1 xs.length (Zd0 xs) F from hs) hF) rfl c4 h1,h2,.inr rfl⟩
   ·rename_i xs
    simp only [Option.some.injEq] at h
    subst h
    obtain ⟨h1,h2,h3⟩:=he _ rfl hob
    exact ⟨Zku (B:=.rowsR xs) (u:=.roII xs) (fun Z w ν x F hs hF=>Zfo (show row w x 1 xs.length (fun j es=>R Z w (.roI (xs.getD j [])) ν false es) F from hs) hF) rfl c4 h1,h2,.inr rfl⟩
   ·cases h
  ·cases h
 ·cases h
theorem evFz_rd {kn:Nat} {e:Option EvR} {r:EvR} (h:evFz kn e=some r) (he:∀ r',e=some r'→RdIn l r'.rd):RdIn l r.rd:=by
 unfold evFz at h
 split at h
 ·split at h
  ·split at h
   ·simp only [Option.some.injEq] at h;subst h;have:=he _ rfl;exact this
   ·simp only [Option.some.injEq] at h;subst h;have:=he _ rfl;exact this
   ·simp only [Option.some.injEq] at h;subst h;have:=he _ rfl;exact this
   ·cases h
  ·cases h
 ·cases h
end
/-! ### A part of a slice of the call's own -/
theorem row_cut {w:World} {xs:List Int} {A:Option Addr} {n cap l h:Nat} {F:Nat→Prop} (hr:row w (.slice A n cap) 1 xs.length (Zdp xs) F) (h1:l≤h) (h2:h≤xs.length) :
  row w (.slice (if cap=l then A else A.map (·.add (l * 1))) (h - l) (cap - l)) 1 ((xs.take h).drop l).length (Zdp ((xs.take h).drop l)) F∧n=xs.length∧h≤cap:=by
 have hlen:((xs.take h).drop l).length=h - l:=by simp;omega
 rw [hlen]
 rcases hr with ⟨e,h0,hF⟩|⟨b,o,cap',cells,T,hx,hc1,hc2,hh,hcsz,hFb,hel⟩
 ·injection e with e1 e2 e3
  subst e1 e2 e3
  refine ⟨.inl ⟨?_,by omega,hF⟩,by omega,by omega⟩
  have:l=0:=by omega
  subst this
  simp
  omega
 ·injection hx with e1 e2 e3
  subst e1 e2 e3
  refine ⟨?_,rfl,by omega⟩
  by_cases hl:cap=l
  ·rw [if_pos hl]
   exact .inr ⟨b,o,cap - l,cells,T,rfl,by omega,by omega,hh,by omega,hFb,fun j hj=>by omega⟩
  ·rw [if_neg hl]
   refine .inr ⟨b,o+l * 1,cap - l,cells,T,by simp [Addr.add_lit],by omega,by omega,hh,by omega,hFb,fun j hj=>?_⟩
   obtain ⟨es,e2,e3,e4⟩:=hel (l+j) (by omega)
   refine ⟨es,?_,e3,fun i c hi=>?_⟩
   ·rw [Zdp] at e2 ⊢
    rw [e2]
    congr 2
    simp only [List.getD_eq_getElem?_getD,List.getElem?_drop,List.getElem?_take]
    rw [if_pos (by omega)]
   ·have:=e4 i c hi
    rw [show o+l * 1+(j * 1+i)=o+((l+j) * 1+i) from by omega]
    exact this
section
variable {P:Program} {get:Operand→AV} {l:List (Nat × Option Blk)} {tb:Nat→Option TI}
theorem opsem_cut {o:Oper} {t e k kn:Nat} {i ie:TI} {x:Operand} {lo hi:Option Operand} {xs:List Int} (ho:o.op=.slice t x lo hi none) (ht:TOK P t i) (hk:i.k=.slc e) (he:TOK P e ie) (hsz:ie.size=1) (hx0:get x=.own k) {lz h0:Int}
  (hlo:bnd get 0 lo=some lz) (hhi:(hi=none∧h0=xs.length)∨∃ y,hi=some y∧cutI (get y)=some h0) (hob:0≤lz∧lz≤h0∧h0≤xs.length) :
  OpSem P o get (.own kn) [(k,.ints xs)] [(kn,some (.ints ((xs.take h0.toNat).drop lz.toNat))),(k,none)] (some kn) :=
 ⟨fun K Z ν w ev μ rs h1 hg hzk hkl hx hrd hkn=>by
  have hk2:=hkn kn rfl
  obtain ⟨rx,mx⟩:=hx x (by rw [ho];simp [Op.operands])
  rw [hx0] at rx
  have ex:=one1 rx
  have hrk:rs k=some (.ints xs):=hrd _ List.mem_cons_self
  obtain ⟨F0,s0,m0,u0,hF0,swap⟩:=Zgv hg hzk hkl hrk
  have hrow:row w (ev x) 1 xs.length (Zdp xs) F0:=by rw [ex];exact s0
  obtain ⟨A,cap,hxv⟩:=Zkr hrow
  have hcut:∀ {a:AV} {z:Int},cutI a=some z→a=.int .i64 z:=by
   intro a z ha
   unfold cutI at ha
   split at ha
   ·simp only [Option.some.injEq] at ha;rw [ha]
   ·cases ha
  have hev:∀ y,lo=some y∨hi=some y→R Z w (get y) ν true [ev y]:=fun y hy=>(hx y (by rw [ho];rcases hy with rfl|rfl<;>simp [Op.operands])).1
  have hlv:(lo.map ev=none∧lz.toNat=0)∨lo.map ev=some (.int .i64 lz.toNat):=by
   cases lo with
   |none=>simp only [bnd,Option.some.injEq] at hlo;subst hlo;exact .inl ⟨rfl,rfl⟩
   |some y =>
    have:=hev y (.inl rfl)
    rw [hcut hlo] at this
    exact .inr (by simp only [Option.map_some];rw [one1 this];congr 2;omega)
  obtain ⟨h,hh,hhv⟩:∃ h:Nat,h0.toNat=h∧((hi.map ev=none∧h=xs.length)∨hi.map ev=some (.int .i64 h)):=by
   refine ⟨_,rfl,?_⟩
   rcases hhi with ⟨rfl,rfl⟩|⟨y,rfl,hy⟩
   ·exact .inl ⟨rfl,by simp⟩
   ·have:=hev y (.inr rfl)
    rw [hcut hy] at this
    refine .inr ?_
    simp only [Option.map_some]
    rw [one1 this];congr 2;omega
  rw [hh]
  have hb1:lz.toNat≤h:=by omega
  have hb2:h≤xs.length:=by omega
  have hrow2:=hrow
  rw [hxv] at hrow2
  obtain ⟨hc1,hc2,hc3⟩:=row_cut hrow2 hb1 hb2
  have hrun:=Zjm ht hk he A xs.length cap (lo.map ev) (hi.map ev) lz.toNat h hlv hhv hb1 hc3 w
  rw [hsz] at hrun
  refine ⟨.slice (if cap=lz.toNat then A else A.map (·.add (lz.toNat * 1))) (h - lz.toNat) (cap - lz.toNat),w,upN ν kn (.slice (if cap=lz.toNat then A else A.map (·.add (lz.toNat * 1))) (h - lz.toNat) (cap - lz.toNat)),Z,.inl ?_,Step.refl K Z w,Zcd hk2,Zdm h1 rfl,?_,?_,Zbz,fun b hb=>hkl b (hzk b hb)⟩
  ·simp only [execOp,ho,Sem.run_bind,hxv,Option.map_none]
   rw [hrun]
   simp [Result.andThen,Sem.run]
  ·rw [Zbt hzk]
   exact swap w _ kn _ F0 (Nat.le_refl _) (fun _ _ _=>rfl) (Zcd hk2) (.inr hk2) (by rw [upN_same];exact hc1) trivial (fun y hy=>⟨.inl hy,(hF0 y hy).2⟩)
  ·show [_]=[_];rw [upN_same]⟩
def evCut (tb:Nat→Option TI) (get:Operand→AV) (l:List (Nat × Option Blk)) (kn:Nat) (t k:Nat) (lo hi:Option Operand):Option EvR :=
 match tb t with
 |some i=>match i.k with
  |.slc e=>match tb e with
   |some ie=>if Nat.beq ie.size 1 then (match lkr l k with
    |some (.ints xs)=>match bnd get 0 lo with
     |some lz=>match hi with
      |none=>some ⟨.own kn,[(k,.ints xs)],[(kn,some (.ints (xs.drop lz.toNat))),(k,none)],some kn,0≤lz∧lz≤xs.length⟩
      |some y=>match cutI (get y) with
       |some z=>some ⟨.own kn,[(k,.ints xs)],[(kn,some (.ints ((xs.take z.toNat).drop lz.toNat))),(k,none)],some kn,0≤lz∧lz≤z∧z≤xs.length⟩
       |none=>none
     |none=>none
    |_=>none) else none
   |none=>none
  |_=>none
 |none=>none
theorem evCut_ok (htb:Zdf P tb) {o:Oper} {t k kn:Nat} {x:Operand} {lo hi:Option Operand} (ho:o.op=.slice t x lo hi none) (hx:get x=.own k) {r:EvR} (h:evCut tb get l kn t k lo hi=some r) (hob:r.ob):EvOK P o get l kn r:=by
 unfold evCut at h
 split at h
 ·rename_i i hi1
  split at h
  ·rename_i e hk
   split at h
   ·rename_i ie he
    split at h
    ·rename_i hsz
     have hsz:=Nat.eq_of_beq_eq_true hsz
     split at h
     ·rename_i xs hk2
      split at h
      ·rename_i lz hlz
       split at h
       ·simp only [Option.some.injEq] at h
        subst h
        have:=opsem_cut (kn:=kn) (xs:=xs) (lz:=lz) (h0:=xs.length) ho (htb t i hi1) hk (htb e ie he) hsz hx hlz (.inl ⟨rfl,rfl⟩) ⟨hob.1,hob.2,Int.le_refl _⟩
        simp only [Int.toNat_natCast,List.take_length] at this
        exact ⟨this,Zat hk2,.inr rfl⟩
       ·rename_i y
        split at h
        ·rename_i z hz
         simp only [Option.some.injEq] at h
         subst h
         exact ⟨opsem_cut (kn:=kn) (xs:=xs) (lz:=lz) (h0:=z) ho (htb t i hi1) hk (htb e ie he) hsz hx hlz (.inr ⟨y,rfl,hz⟩) hob,Zat hk2,.inr rfl⟩
        ·cases h
      ·cases h
     ·cases h
    ·cases h
   ·cases h
  ·cases h
 ·cases h
theorem evCut_rd {t k kn:Nat} {lo hi:Option Operand} {r:EvR} (h:evCut tb get l kn t k lo hi=some r):RdIn l r.rd:=by
 unfold evCut at h
 (repeat' split at h)<;>first
  |(cases h;done)
  |(simp only [Option.some.injEq] at h;subst h;exact Zat (by assumption))
end
open Go
def fnd (k:Int):List (Int × Int × Nat)→Nat→Option (Nat × Int)
 |[],_=>none
 |e :: t,i=>if k=e.1 then some (i,e.2.1) else fnd k t (i+1)
def mget (k:Int) (es:List (Int × Int × Nat)):Int:=match fnd k es 0 with|some p=>p.2|none=>0
def mhas (k:Int) (es:List (Int × Int × Nat)):Bool:=match fnd k es 0 with|some _=>true|none=>false
def mput (k v:Int) (c:Nat) (es:List (Int × Int × Nat)):List (Int × Int × Nat):=match fnd k es 0 with|some p=>es.modify p.1 (fun e=>(k,v,e.2.2))|none=>es++[(k,v,c)]
def mclk (k:Int) (c:Nat) (es:List (Int × Int × Nat)):Nat:=match fnd k es 0 with|some _=>c|none=>c+1
theorem fnd_some {k:Int}:∀ {es:List (Int × Int × Nat)} {i:Nat} {p:Nat × Int},fnd k es i=some p→∃ j e,p.1=i+j∧es[j]? = some e∧e.1=k∧p.2=e.2.1
 |[],_,_,h=>by cases h
 |e :: t,i,p,h=>by
  unfold fnd at h
  split at h
  ·rename_i hk
   cases h
   exact ⟨0,e,rfl,rfl,hk.symm,rfl⟩
  ·obtain ⟨j,e',h1,h2,h3,h4⟩:=fnd_some h
   exact ⟨j+1,e',by omega,by simpa using h2,h3,h4⟩
section
variable {P:Program} {get:Operand→AV} {l:List (Nat × Option Blk)} {tb:Nat→Option TI}
theorem run_findNow {k:Int}:∀ {es:List (Int × Int × Nat)} {i:Nat},Instr.findNow (.int .i64) (.int .i64 k) (es.map ent) i=some ((fnd k es i).map fun p=>(p.1,Value.int .i64 p.2))
 |[],_=>rfl
 |e :: t,i=>by
  show (match Instr.sameNow (.int .i64) (.int .i64 k) (Value.int .i64 e.1) with|some true=>some (some (i,Value.int .i64 e.2.1))|some false=>Instr.findNow (.int .i64) (.int .i64 k) (t.map ent) (i+1)|none=>none)=_
  have h:Instr.sameNow (.int .i64) (.int .i64 k) (Value.int .i64 e.1)=some (k == e.1):=by simp [Instr.sameNow]
  rw [h]
  unfold fnd
  by_cases hk:k=e.1
  ·rw [if_pos hk,beq_iff_eq.2 hk];rfl
  ·rw [if_neg hk,beq_eq_false_iff_ne.2 hk]
   exact run_findNow (es:=t) (i:=i+1)
theorem Zg8 {kt:Nat} {w:World} {k:Int} {es:List (Int × Int × Nat)} (hk:P.underlying kt=some (.int .i64)):(Instr.findKey kt (.int .i64 k) (es.map ent)).run P w=.ok ((fnd k es 0).map fun p=>(p.1,Value.int .i64 p.2)) w:=by
 simp [Instr.findKey,Sem.run_bind,run_underlying hk,Result.andThen,run_findNow,Sem.run]
theorem Zmg {kt:Nat} {w:World} {k:Int} {e:Bool} (hk:P.underlying kt=some (.int .i64)):(Instr.checkKey e 10000 kt (.int .i64 k)).run P w=.ok () w :=
 MapKept.run_checkKey (k:=.int .i64 k) hk (show IntKind.i64=IntKind.i64 from rfl) e 9999
theorem run_stay {w:World} {k:Int}:(Instr.keyThatStays (.int .i64 k) (.int .i64 k)).run P w=.ok (.int .i64 k) w:=by
 simp [Instr.keyThatStays,Instr.sameBits,Sem.run]
theorem opsem_makeMap {o:Oper} {t:Nat} (ho:o.op=.makeMap t none) (kn:Nat):OpSem P o get (.own kn) [] [(kn,some (.mp [] 0))] (some kn) :=
 ⟨fun K Z ν w ev μ rs h1 hg hzk hkl hx hrd hkn=>by
  have hk:=hkn kn rfl
  refine ⟨.map (some w.heap.size),w.alloc (.map #[] 0),upN ν kn (.map (some w.heap.size)),Z,.inl ?_,Zds hkl _,Zcd hk,Zdm h1 rfl,?_,?_,Zbz,fun b hb=>by have:=hkl b (hzk b hb);simp;omega⟩
  ·simp [execOp,ho,Instr.makeMap,newObj,Sem.run_bind,Result.andThen,Sem.run]
  ·rw [Zbt hzk]
   exact Zew (F:=fun y=>y=w.heap.size) hg hzk hkl hk (by simp) (fun y hy=>Zbi _ hy) ⟨w.heap.size,#[],rfl,Zd3 _,rfl,fun _=>Iff.rfl⟩ trivial (fun y hy=>by subst hy;simp)
  ·show [_]=[_];rw [upN_same]⟩
theorem opsem_lookup {o:Oper} {t km c:Nat} {m x:Operand} {ok:Bool} {k:Int} {es:List (Int × Int × Nat)} (ho:o.op=.lookup t m x ok) (ht:Zot P t) (hm:get m=.own km) (hx:get x=.int .i64 k) :
  OpSem P o get (bif ok then .tup (.cons (.int .i64 (mget k es)) (.cons (.bool (mhas k es)) .nil)) else .int .i64 (mget k es)) [(km,.mp es c)] [] none :=
 Zdb fun K Z ν w ev μ rs h1 hg hv hrd=>by
  obtain ⟨kt,e,hu,hk,inf,hi,hz⟩:=ht
  obtain ⟨rm,_⟩:=hv m (by rw [ho];simp [Op.operands])
  obtain ⟨rx,_⟩:=hv x (by rw [ho];simp [Op.operands])
  rw [hm] at rm
  rw [hx] at rx
  have em:=one1 rm
  have ex:=one1 rx
  have hb:rs km=some (.mp es c):=hrd (km,.mp es c) (by simp)
  obtain ⟨Ft,hF⟩:=hg
  obtain ⟨_,_,hs,_,_⟩:=hF km _ hb
  obtain ⟨b,arr,hxv,hh,he,_⟩:=hs
  rw [hxv] at em
  have hrun:∀ (v:Value),(Instr.lookup t (ev m) (ev x) ok).run P w=.ok v w→(execOp ev o).run P w=.ok (.value v) w:=fun v h=>by
   simp [execOp,ho,Sem.run_bind,h,Result.andThen,Sem.run]
  have hzv:(zeroValue e).run P w=.ok (.int .i64 0) w:=by simp [zeroValue,typeInfo,Sem.run_bind,hi,hz,Result.andThen,program,Sem.run]
  have key:(Instr.lookup t (ev m) (ev x) ok).run P w=.ok (if ok then .tuple #[.int .i64 (mget k es),.bool (mhas k es)] else .int .i64 (mget k es)) w:=by
   rw [em,ex]
   simp only [Instr.lookup,Sem.run_bind,run_underlying hu,Result.andThen,MapKept.run_getObj_map hh,Sem.run_pure,Zmg hk,he,Zg8 hk]
   unfold mget mhas
   cases hf:fnd k es 0 with
   |none=>cases ok<;>simp [Sem.run_bind,hzv,Result.andThen,Sem.run]
   |some p=>cases ok<;>simp [Sem.run_bind,Result.andThen,Sem.run]
  cases ok with
  |false=>exact ⟨_,hrun _ key,rfl,rfl⟩
  |true=>exact ⟨_,hrun _ key,⟨_,rfl,_,_,rfl,rfl,_,_,rfl,rfl,rfl⟩,rfl⟩
theorem opsem_mapUpdate {o:Oper} {t km c:Nat} {m x y:Operand} {k v:Int} {es:List (Int × Int × Nat)} (ho:o.op=.mapUpdate t m x y) (ht:Zot P t) (hm:get m=.own km) (hx:get x=.int .i64 k) (hy:get y=.int .i64 v) :
  OpSem P o get .any [(km,.mp es c)] [(km,some (.mp (mput k v c es) (mclk k c es)))] none :=
 ⟨fun K Z ν w ev μ rs h1 hg hzk hkl hv hrd hkn=>by
  obtain ⟨kt,e,hu,hk,inf,hi,hz⟩:=ht
  obtain ⟨rm,_⟩:=hv m (by rw [ho];simp [Op.operands])
  obtain ⟨rx,_⟩:=hv x (by rw [ho];simp [Op.operands])
  obtain ⟨ry,_⟩:=hv y (by rw [ho];simp [Op.operands])
  rw [hm] at rm
  rw [hx] at rx
  rw [hy] at ry
  have em:=one1 rm
  have ex:=one1 rx
  have ey:=one1 ry
  have hb:rs km=some (.mp es c):=hrd (km,.mp es c) (by simp)
  obtain ⟨F0,s0,m0,u0,hF0,swap⟩:=Zgv hg hzk hkl hb
  obtain ⟨b,arr,hxv,hh,he,hF⟩:=s0
  have hbF:F0 b:=(hF b).2 rfl
  rw [hxv] at em
  have hbl:b < w.heap.size:=(Array.getElem?_eq_some_iff.1 hh).1
  obtain ⟨arr',hrun,he'⟩:∃ arr',(Instr.mapUpdate t (ev m) (ev x) (ev y)).run P w=.ok () { w with heap:=w.heap.setIfInBounds b (.map arr' (mclk k c es)) }∧arr'.toList=(mput k v c es).map ent:=by
   rw [em,ex,ey]
   unfold mput mclk
   cases hf:fnd k es 0 with
   |none =>
    refine ⟨arr.push ⟨.int .i64 k,.int .i64 v,c⟩,?_,?_⟩
    ·simp only [Instr.mapUpdate,Sem.run_bind,run_underlying hu,Result.andThen,MapKept.run_getObj_map hh,Zmg hk,he,Zg8 hk,hf,Option.map_none]
     exact MapKept.run_setObj_map _ hh
    ·rw [Array.toList_push,he,List.map_append];rfl
   |some p =>
    obtain ⟨j,e0,h2,h3,h4,h5⟩:=fnd_some hf
    have hj:p.1=j:=by omega
    refine ⟨arr.modify j (fun e=>{ e with key:=.int .i64 k,val:=.int .i64 v }),?_,?_⟩
    ·have hgk:((arr[j]?).map (·.key)).getD (.int .i64 k)=.int .i64 k:=by
      have:arr[j]? = some (ent e0):=by rw [←Array.getElem?_toList,he,List.getElem?_map,h3];rfl
      rw [this];show Value.int .i64 e0.1=_;rw [h4]
     simp only [Instr.mapUpdate,Sem.run_bind,run_underlying hu,Result.andThen,MapKept.run_getObj_map hh,Zmg hk,he,Zg8 hk,hf,Option.map_some,hj,hgk,run_stay]
     exact MapKept.run_setObj_map _ hh
    ·rw [Array.toList_modify,he]
     dsimp only
     rw [hj]
     refine List.ext_getElem? fun i=>?_
     simp only [List.getElem?_modify,List.getElem?_map]
     cases es[i]? with
     |none=>rfl
     |some a =>
      by_cases hij:j=i
      ·simp [hij,ent]
      ·simp [hij]
  have w1:∀ y,y≠b→({ w with heap:=w.heap.setIfInBounds b (.map arr' (mclk k c es)) }:World).heap[y]? = w.heap[y]?:=fun y hy=>by
   show (w.heap.setIfInBounds b _)[y]? = _
   rw [Array.getElem?_setIfInBounds,if_neg (Ne.symm hy)]
  have w2:({ w with heap:=w.heap.setIfInBounds b (.map arr' (mclk k c es)) }:World).heap.size=w.heap.size:=by simp
  have w3:({ w with heap:=w.heap.setIfInBounds b (.map arr' (mclk k c es)) }:World).heap[b]? = some (.map arr' (mclk k c es)):=by
   show (w.heap.setIfInBounds b _)[b]? = _
   rw [Array.getElem?_setIfInBounds,if_pos rfl,if_pos hbl]
  generalize hwd:({ w with heap:=w.heap.setIfInBounds b (.map arr' (mclk k c es)) }:World)=w' at *
  refine ⟨undef,w',ν,Z,.inr ⟨?_,rfl⟩,⟨⟨by rw [←hwd],by rw [←hwd],by rw [←hwd],by omega,fun y hy=>w1 y (fun e=>(hF0 b hbF).1 (e▸hy))⟩,fun _ h=>h,fun _ h=>.inl h⟩,fun _ _=>rfl,h1,?_,⟨_,rfl⟩,rfl,fun y hy=>by rw [w2];exact hkl y (hzk y hy)⟩
  ·simp [execOp,ho,Sem.run_bind,hrun,Result.andThen,Sem.run]
  ·rw [Zbt hzk]
   have:=swap w' ν km (.mp (mput k v c es) (mclk k c es)) F0 (by omega) (fun y hy _=>w1 y (fun e=>hy (e▸hbF))) (fun _ _=>rfl) (.inl rfl)
    ⟨b,arr',hxv,w3,he',hF⟩ trivial (fun y hy=>⟨.inl hy,by rw [w2];exact (hF0 y hy).2⟩)
   rw [Zh9 u0,Zgp] at this
   exact this⟩
def evMap (tb:Nat→Option TI) (get:Operand→AV) (l:List (Nat × Option Blk)) (kn:Nat) (op:Op):Option EvR :=
 match op with
 |.makeMap _ none=>some ⟨.own kn,[],[(kn,some (.mp [] 0))],some kn,True⟩
 |.lookup t m x ok=>match tb t with
  |some i=>match i.k with
   |.map=>match get m with
    |.own km=>match lkr l km with
     |some (.mp es c)=>match get x with
      |.int .i64 k=>some ⟨bif ok then .tup (.cons (.int .i64 (mget k es)) (.cons (.bool (mhas k es)) .nil)) else .int .i64 (mget k es),[(km,.mp es c)],[],none,True⟩
      |_=>none
     |_=>none
    |_=>none
   |_=>none
  |none=>none
 |.mapUpdate t m x y=>match tb t with
  |some i=>match i.k with
   |.map=>match get m with
    |.own km=>match lkr l km with
     |some (.mp es c)=>match get x,get y with
      |.int .i64 k,.int .i64 v=>some ⟨.any,[(km,.mp es c)],[(km,some (.mp (mput k v c es) (mclk k c es)))],none,True⟩
      |_,_=>none
     |_=>none
    |_=>none
   |_=>none
  |none=>none
 |_=>none
theorem Zlc (htb:Zdf P tb) {o:Oper} {kn:Nat} {r:EvR} (h:evMap tb get l kn o.op=some r):EvOK P o get l kn r:=by
 unfold evMap at h
 split at h
 ·rename_i t ho
  simp only [Option.some.injEq] at h
  subst h
  exact ⟨opsem_makeMap ho kn,Zan,.inr rfl⟩
 ·rename_i t m x ok ho
  split at h
  ·rename_i i hi
   split at h
   ·rename_i hk
    split at h
    ·rename_i km hm
     split at h
     ·rename_i es c hl
      split at h
      ·rename_i k hx
       simp only [Option.some.injEq] at h
       subst h
       exact ⟨opsem_lookup ho ((htb t i hi).map hk) hm hx,Zat hl,.inl rfl⟩
      ·cases h
     ·cases h
    ·cases h
   ·cases h
  ·cases h
 ·rename_i t m x y ho
  split at h
  ·rename_i i hi
   split at h
   ·rename_i hk
    split at h
    ·rename_i km hm
     split at h
     ·rename_i es c hl
      split at h
      ·rename_i k v hx hy
       simp only [Option.some.injEq] at h
       subst h
       exact ⟨opsem_mapUpdate ho ((htb t i hi).map hk) hm hx hy,Zat hl,.inl rfl⟩
      ·cases h
     ·cases h
    ·cases h
   ·cases h
  ·cases h
 ·cases h
theorem evMap_rd {kn:Nat} {op:Op} {r:EvR} (h:evMap tb get l kn op=some r):RdIn l r.rd:=by
 unfold evMap at h
 (repeat' split at h)<;>first
  |(cases h;done)
  |(simp only [Option.some.injEq] at h;subst h;first|exact Zan|exact Zat (by assumption))
theorem opsem_cap {o:Oper} {t e:Nat} {i ie:TI} {x y y2:Operand} {xs:List Int} {z:Int} (ho:o.op=.slice t x none (some y) (some y2)) (ht:TOK P t i) (hk:i.k=.slc e) (he:TOK P e ie) (hsz:ie.size=1) (hx:get x=.roI xs) (hy:get y=.int .i64 z) (hy2:get y2=.int .i64 z) (h0:0≤z) (h1:z≤xs.length) :
  OpSem P o get (.roI (xs.take z.toNat)) [] [] none :=
 Zdb fun K Z ν w ev μ rs hone hg hv hrd=>by
  obtain ⟨z,rfl⟩:=Int.eq_ofNat_of_zero_le h0
  simp only [Int.toNat_natCast]
  obtain ⟨rx,_⟩:=hv x (by rw [ho];simp [Op.operands])
  obtain ⟨ry,_⟩:=hv y (by rw [ho];simp [Op.operands])
  obtain ⟨ry2,_⟩:=hv y2 (by rw [ho];simp [Op.operands])
  rw [hx] at rx
  rw [hy] at ry
  rw [hy2] at ry2
  have ey:=one1 ry
  have ey2:=one1 ry2
  obtain ⟨A,cap,ex,c1,c2,c3⟩:=rx
  simp only [List.cons.injEq,and_true] at ex
  have hz:z≤xs.length:=by omega
  have hs:(sizeOf e).run P w=.ok 1 w:=by rw [Zc9 he,hsz]
  have g1:z≤cap:=by omega
  have hrun:(Instr.sliceAt t (ev x) none (some (ev y)) (some (ev y2))).run P w=.ok (.slice (if z=0 then A else A.map (·.add (0 * 1))) (z - 0) (z - 0)) w:=by
   rw [ex,ey,ey2]
   simp [Instr.sliceAt,Instr.slice,Instr.sliceBounds,Instr.sliceBound,asIntOf,Sem.run_bind,run_underlying (ht.slc e hk),hs,Result.andThen,Sem.run,g1]
  refine ⟨.slice (if z=0 then A else A.map (·.add (0 * 1))) (z - 0) (z - 0),by simp [execOp,ho,Sem.run_bind,hrun,Result.andThen,Sem.run],?_,rfl⟩
  show Zfp Z w 1 (xs.take z).length (Zdp (xs.take z)) _
  have hl:(xs.take z).length=z:=by rw [List.length_take];omega
  rw [hl]
  refine ⟨_,_,rfl,by omega,by omega,fun hp=>?_⟩
  obtain ⟨b,o',hA,hZ,hj⟩:=c3 (by omega)
  refine ⟨b,o',?_,hZ,fun j hjz=>?_⟩
  ·rw [if_neg (by omega),hA];simp [Addr.add_lit]
  ·obtain ⟨es,e1,e2,e3⟩:=hj j (by omega)
   refine ⟨es,?_,e2,e3⟩
   rw [Zdp] at e1 ⊢
   rw [e1,List.getD_eq_getElem?_getD,List.getD_eq_getElem?_getD,List.getElem?_take,if_pos hjz]
def evCap (tb:Nat→Option TI) (get:Operand→AV) (t:Nat) (x:Operand) (lo hi:Option Operand) (mx:Operand):Option EvR :=
 match lo,hi with
 |none,some y=>match tb t with
  |some i=>match i.k with
   |.slc e=>match tb e with
    |some ie=>if Nat.beq ie.size 1 then (match get x with
     |.roI xs=>match get y,get mx with
      |.int .i64 z,.int .i64 z'=>some ⟨.roI (xs.take z.toNat),[],[],none,z'=z∧0≤z∧z≤xs.length⟩
      |_,_=>none
     |_=>none) else none
    |none=>none
   |_=>none
  |none=>none
 |_,_=>none
theorem evCap_ok (htb:Zdf P tb) {o:Oper} {t kn:Nat} {x mx:Operand} {lo hi:Option Operand} (ho:o.op=.slice t x lo hi (some mx)) {r:EvR} (h:evCap tb get t x lo hi mx=some r) (hob:r.ob):EvOK P o get l kn r:=by
 unfold evCap at h
 split at h
 ·rename_i y
  split at h
  ·rename_i i hi
   split at h
   ·rename_i e hk
    split at h
    ·rename_i ie he
     split at h
     ·rename_i hsz
      split at h
      ·rename_i xs hx
       split at h
       ·rename_i z z' hy hy2
        simp only [Option.some.injEq] at h
        subst h
        obtain ⟨rfl,o2,o3⟩:=hob
        exact ⟨opsem_cap ho (htb t i hi) hk (htb e ie he) (Nat.eq_of_beq_eq_true hsz) hx hy hy2 o2 o3,Zan,.inl rfl⟩
       ·cases h
      ·cases h
     ·cases h
    ·cases h
   ·cases h
  ·cases h
 ·cases h
theorem evCap_rd {t:Nat} {x mx:Operand} {lo hi:Option Operand} {r:EvR} (h:evCap tb get t x lo hi mx=some r):RdIn l r.rd:=by
 unfold evCap at h
 (repeat' split at h)<;>first
  |(cases h;done)
  |(simp only [Option.some.injEq] at h;subst h;exact Zan)
def isIntS (tb:Nat→Option TI) (t:Nat):Bool :=
 match tb t with
 |some i=>match i.k with
  |.slc e=>match tb e with
   |some ie=>match ie.zero with | .int _ _=>true|_=>false
   |none=>false
  |_=>false
 |none=>false
end
open Go
section
variable {P:Program} {tb:Nat→Option TI} {get:Operand→AV} {l:List (Nat × Option Blk)}
def ifA (t:Nat) (u:AV):List Value→(Nat→Prop)→World→(Nat→Prop)→Prop:=fun ys Z w F=>(∀ y,¬ F y)∧∃ v,ys=[.iface t v]∧R Z w u nu0 true [v]
theorem opsem_iface {o:Oper} {t:Nat} {i:TI} {x:Operand} {fs:List (Nat × Nat × Bool)} (ho:o.op=.makeInterface t x) (ht:TOK P t i) (hk:i.k=.str fs) (hm:men noK (get x)=true) (kn:Nat) :
  OpSem P o get (.own kn) [] [(kn,some (.sem [kn] (ifA t (get x))))] (some kn) :=
 ⟨fun K Z ν w ev μ rs h1 hg hzk hkl hx hrd hkn=>by
  have hk2:=hkn kn rfl
  obtain ⟨rx,_⟩:=hx x (by rw [ho];simp [Op.operands])
  obtain ⟨arr,hu,_⟩:=ht.str fs hk
  have hrun:(execOp ev o).run P w=.ok (.value (.iface t (ev x))) w:=by
   simp [execOp,ho,Instr.makeInterface,Sem.run_bind,run_underlying hu,Result.andThen,Sem.run]
  refine ⟨_,w,upN ν kn (.iface t (ev x)),Z,.inl hrun,Step.refl K Z w,Zcd hk2,Zdm h1 rfl,?_,?_,Zbz,fun b hb=>hkl b (hzk b hb)⟩
  ·rw [Zbt hzk]
   refine Zew (F:=fun _=>False) hg hzk hkl hk2 (Nat.le_refl _) (fun _ _=>rfl) ?_ (fun k hk=>?_) (fun y hy=>hy.elim)
   ·intro Z' w' hZ hw
    refine ⟨fun y hy=>hy,ev x,?_,Zdi hm (Zbc hZ (fun b hb=>hw b (.inl hb)) rx)⟩
    show [upN ν kn (.iface t (ev x)) kn]=_
    rw [upN_same]
   ·rw [List.mem_singleton.1 hk];exact Zbz
  ·show [_]=[_];rw [upN_same]⟩
def evIf (tb:Nat→Option TI) (get:Operand→AV) (kn t:Nat) (x:Operand):Option EvR :=
 match tb t with
 |some i=>match i.k with
  |.str _=>(match men noK (get x) with|true=>some ⟨.own kn,[],[(kn,some (.sem [kn] (ifA t (get x))))],some kn,True⟩|false=>none)
  |_=>none
 |none=>none
theorem evIf_ok (htb:Zdf P tb) {o:Oper} {kn t:Nat} {x:Operand} {r:EvR} (ho:o.op=.makeInterface t x) (h:evIf tb get kn t x=some r):EvOK P o get l kn r:=by
 unfold evIf at h
 split at h
 ·rename_i i hi
  split at h
  ·rename_i fs hk
   split at h
   ·rename_i hm
    simp only [Option.some.injEq] at h
    subst h
    exact ⟨opsem_iface ho (htb t i hi) hk hm kn,Zan,.inr rfl⟩
   ·cases h
  ·cases h
 ·cases h
theorem evIf_rd {kn t:Nat} {x:Operand} {r:EvR} (h:evIf tb get kn t x=some r):RdIn l r.rd:=by
 unfold evIf at h
 (repeat' split at h)<;>first
  |(cases h;done)
  |(simp only [Option.some.injEq] at h;subst h;exact Zan)
end
open Go
def evCall (sp:Nat→Option Spec) (get:Operand→AV) (l:List (Nat × Option Blk)) (kn:Nat) (c:Call):Option EvR :=
 match c.callee with
 |.value x=>match get x with
  |.fn f caps=>if properL caps then (match sp f with
   |some S=>match viewA l (appL (ofL get c.args.toList) caps) with
    |some (a',rd)=>match S (lsOf a') with
     |some r=>ofSR kn rd r
     |none=>none
    |none=>none
   |none=>none) else none
  |_=>none
 |_=>none
def ev1 (tb:Nat→Option TI) (sp:Nat→Option Spec) (get:Operand→AV) (l:List (Nat × Option Blk)) (kn:Nat) (alt:Bool) (op:Op):Option EvR :=
 match op with
 |.call c=>match c.callee with
  |.value _=>evCall sp get l kn c
  |.builtin .copy=>evCopy tb get l c
  |.builtin .append=>(match alt with|true=>evFz kn (evx tb get l kn false (.call c))|false=>evx tb get l kn false (.call c))
  |_=>evx tb get l kn alt (.call c)
 |.defer _=>none
 |.slice t x lo hi none=>(match get x with | .own k=>evCut tb get l kn t k lo hi|_=>evx tb get l kn alt (.slice t x lo hi none))
 |.slice t x lo hi (some mx)=>evCap tb get t x lo hi mx
 |.makeMap t q=>evMap tb get l kn (.makeMap t q)
 |.lookup t m x ok=>evMap tb get l kn (.lookup t m x ok)
 |.mapUpdate t m x y=>evMap tb get l kn (.mapUpdate t m x y)
 |.makeInterface t x=>evIf tb get kn t x
 |.makeSlice t a c=>(match alt && isIntS tb t with|true=>evFz kn (evx tb get l kn false (.makeSlice t a c))|false=>evx tb get l kn alt (.makeSlice t a c))
 |op=>evx tb get l kn alt op
def guardOf (ops:List Oper) (get:Operand→AV) (o:Oper):Option (Option Bool) :=
 match o.guard with
 |none=>some none
 |some (j,want)=>match ops[j]? with
  |some oj=>match oj.dst with
   |some d=>match get (.tmp d) with
    |.bool b=>some (some (bif want then b else !b))
    |.whn g u=>match u with
     |.bool b=>some (some (g && bif want then b else !b))
     |_=>none
    |_=>none
   |none=>none
  |none=>none
def gds : List AV→Prop
 |[]=>True
 |u :: t=>gd u∧gds t
def whnR (g:Bool) (gs:Prop):Option EvR→Option EvR
 |some r=>match r.wr,r.kn with
  |[],none=>some ⟨.whn g r.val,r.rd,[],none,g=true→gs∧r.ob⟩
  |_,_=>none
 |none=>none
def evo (tb:Nat→Option TI) (sp:Nat→Option Spec) (ops:List Oper) (get:Operand→AV) (l:List (Nat × Option Blk)) (kn:Nat) (alt:Bool) (o:Oper):Option EvR :=
 match guardOf ops get o with
 |none=>none
 |some none=>ev1 tb sp get l kn alt o.op
 |some (some g)=>match o.op with
  |.pick c a b=>whnR g True (evPick (get c) (get a) (get b))
  |op=>whnR g (gds (op.operands.toList.map get)) (ev1 tb sp (fun x=>strip (get x)) l kn alt op)
def Zgc : List Operand→List Nat
 |[]=>[]
 |x :: t=>match x with | .tmp d=>d :: Zgc t|_=>Zgc t
def Zen (ops:List Oper) (o:Oper):List Nat :=
 match o.guard with
 |none=>[]
 |some (j,_)=>match ops[j]? with
  |some oj=>oj.dst.toList
  |none=>[]
def lke : List (Nat × AV)→Nat→AV
 |[],_=>.any
 |(k,v) :: t,s=>match Nat.beq s k with|true=>v|false=>lke t s
def del (k:Nat):List (Nat × Option Blk)→List (Nat × Option Blk)
 |[]=>[]
 |(k',b) :: t=>match Nat.beq k k' with|true=>del k t|false=>(k',b) :: del k t
def set1 (k:Nat) (b:Blk):List (Nat × Option Blk)→List (Nat × Option Blk)
 |[]=>[(k,some b)]
 |(k',b') :: t=>match Nat.beq k k' with|true=>(k,some b) :: t|false=>(k',b') :: set1 k b t
def setW : List (Nat × Option Blk)→List (Nat × Option Blk)→List (Nat × Option Blk)
 |[],l=>l
 |(k,some b) :: w,l=>set1 k b (setW w l)
 |(k,none) :: w,l=>del k (setW w l)
structure ER where
 its:List Item
 env:List (Nat × AV)
 l:List (Nat × Option Blk)
 ob:Prop
def putE (o:Option Nat) (v:AV) (e:List (Nat × AV)):List (Nat × AV):=match o with|some d=>(d,v) :: e|none=>e
def Zb4 (tb:Nat→Option TI) (sp:Nat→Option Spec) (ch:Nat→Bool) (m:Nat) (all:List Oper):List Oper→Nat→List (Nat × AV)→List (Nat × Option Blk)→ER
 |[],_,e,l=>⟨[],e,l,True⟩
 |o :: t,i,e,l=>match evo tb sp all (opv (lke e)) l (m+i) (ch i) o with
  |none=>⟨[],e,l,False⟩
  |some r =>
   let q:=Zb4 tb sp ch m all t (i+1) (putE o.dst r.val e) (setW r.wr l)
   ⟨⟨o.dst,(Zgc o.op.operands.toList++Zen all o).map (fun t=>(t,lke e t)),r.val,r.rd,r.wr,r.kn⟩ :: q.its,q.env,q.l,r.ob∧q.ob⟩
structure CS where
 m:Nat
 env:List (Nat × AV)
 rs:List (Nat × Option Blk)
 ms:List Nat
def CS.st (s:CS):St:=⟨ltK s.m,lke s.env,lkr s.rs,s.ms⟩
theorem beqN {a b:Nat} (h:a≠b):Nat.beq a b=false:=by cases hb:Nat.beq a b with|false=>rfl|true=>exact absurd (Nat.eq_of_beq_eq_true hb) h
theorem Zho {o:Option Nat} {v:AV} {e:List (Nat × AV)}:lke (putE o v e)=putO (lke e) o v:=by
 cases o with
 |none=>rfl
 |some d=>rfl
theorem lkr_del {k:Nat} {l:List (Nat × Option Blk)}:lkr (del k l)=fun j=>if j=k then none else lkr l j:=by
 funext j
 induction l with
 |nil=>simp [del,lkr,lko]
 |cons p t ih =>
  obtain ⟨k',b⟩:=p
  simp only [del]
  by_cases hk:k=k'
  ·subst hk
   rw [Nat.beq_refl]
   dsimp only
   rw [ih]
   by_cases hj:j=k
   ·simp [hj]
   ·simp only [if_neg hj,lkr,lko,beqN hj]
  ·rw [beqN hk]
   dsimp only
   simp only [lkr,lko] at ih ⊢
   by_cases hj:j=k'
   ·subst hj;rw [Nat.beq_refl,if_neg (Ne.symm hk)]
   ·rw [beqN hj];exact ih
theorem Zf1 {k:Nat} {b:Blk} {l:List (Nat × Option Blk)}:lkr (set1 k b l)=fun j=>if j=k then some b else lkr l j:=by
 funext j
 induction l with
 |nil =>
  by_cases hj:j=k
  ·subst hj;simp [set1,lkr,lko,Nat.beq_refl]
  ·simp [set1,lkr,lko,beqN hj,hj]
 |cons p t ih =>
  obtain ⟨k',b'⟩:=p
  simp only [set1]
  by_cases hk:k=k'
  ·subst hk
   rw [Nat.beq_refl]
   by_cases hj:j=k
   ·subst hj;simp [lkr,lko,Nat.beq_refl]
   ·simp only [lkr,lko,beqN hj,if_neg hj]
  ·rw [beqN hk]
   dsimp only
   simp only [lkr,lko] at ih ⊢
   by_cases hj:j=k'
   ·subst hj;rw [Nat.beq_refl,if_neg (Ne.symm hk)]
   ·rw [beqN hj];exact ih
theorem Zhw : ∀ {wr l:List (Nat × Option Blk)},lkr (setW wr l)=updL (lkr l) wr
 |[],l=>rfl
 |(k,some b) :: w,l=>by
  simp only [setW,Zf1,Zhw (wr:=w)]
  funext j
  simp only [updL,lko]
  by_cases hj:j=k
  ·subst hj;simp [Nat.beq_refl]
  ·simp only [beqN hj,if_neg hj]
 |(k,none) :: w,l=>by
  simp only [setW,lkr_del,Zhw (wr:=w)]
  funext j
  simp only [updL,lko]
  by_cases hj:j=k
  ·subst hj;simp [Nat.beq_refl]
  ·simp only [beqN hj,if_neg hj]
theorem mem_tmps {xs:List Operand} {t:Nat} (h:Operand.tmp t∈xs):t∈Zgc xs:=by
 induction xs with
 |nil=>cases h
 |cons x xs ih =>
  rcases List.mem_cons.1 h with rfl|h
  ·simp [Zgc]
  ·have:=ih h
   cases x<;>simp [Zgc,this]
def SpOK (P:Program) (sp:Nat→Option Spec):Prop:=∀ f S,sp f=some S→Zcn P f S
section
variable {P:Program} {ro:Option Nat} {N κ:Nat} {tb:Nat→Option TI} {sp:Nat→Option Spec}
structure DoOK (P:Program) (ro:Option Nat) (o:Oper) (get:Operand→AV) (l:List (Nat × Option Blk)) (kn:Nat) (r:EvR):Prop where
 does:Does P ro o get r.val r.rd r.wr r.kn
 rd:RdIn l r.rd
 kn:r.kn=none∨r.kn=some kn
theorem ofSR_same {kn:Nat} {rd:List (Nat × Blk)} {r:SR} {r':EvR} (h:ofSR kn rd r=some r'):r'.rd=rd∧(r'.kn=none∨r'.kn=some kn)∧(r'.ob→r.ob):=by
 unfold ofSR at h
 split at h<;>split at h<;>first|(cases h;done)|(simp only [Option.some.injEq] at h;subst h;exact ⟨rfl,by simp,id⟩)
theorem ev1_ok (htb:Zdf P tb) (hmz:∀ t i,tb t=some i→men noK i.zero=true) (hsp:SpOK P sp) (o:Oper) {get:Operand→AV} {l:List (Nat × Option Blk)} {kn:Nat} {alt:Bool} {r:EvR} (h:ev1 tb sp get l kn alt o.op=some r) (hob:r.ob) :
  DoOK P ro o get l kn r∧∀ c,o.op≠.defer c:=by
 have plain:(∀ c,o.op≠.defer c)→evx tb get l kn alt o.op=some r→DoOK P ro o get l kn r∧∀ c,o.op≠.defer c:=fun hnd h=>by
  obtain ⟨h1,h2,h3⟩:=Zn6 htb hmz o h hob
  exact ⟨⟨Zdd hnd h1,h2,h3⟩,hnd⟩
 unfold ev1 at h
 split at h
 ·rename_i c ho
  split at h
  ·rename_i x hx
   unfold evCall at h
   rw [hx] at h
   dsimp only at h
   split at h
   ·rename_i f caps hf
    split at h
    ·rename_i hpc
     split at h
     ·rename_i S hS
      split at h
      ·rename_i a' rd hv
       split at h
       ·rename_i r0 hr
        obtain ⟨e1,e2,e3⟩:=ofSR_same h
        have hceq:o.op=.call ⟨.value x,c.args.toList.toArray,c.argTypes⟩:=by
         rw [ho]
         obtain ⟨cal,args,ats⟩:=c
         simp only at hx
         subst hx
         rfl
        refine ⟨⟨?_,by rw [e1];exact view_rd hv,e2⟩,by rw [ho];intro c' hc;cases hc⟩
        rw [e1]
        exact does_call hceq hf hpc hv (hsp f S hS) hr h (e3 hob)
       ·cases h
      ·cases h
     ·cases h
    ·cases h
   ·cases h
  ·rename_i hcp
   obtain ⟨h1,h2,h3⟩:=evCopy_ok (kn:=kn) htb ho hcp h hob
   have hnd:∀ c,o.op≠.defer c:=by rw [ho];intro c' hc;cases hc
   exact ⟨⟨Zdd hnd h1,h2,h3⟩,hnd⟩
  ·have hnd:∀ c,o.op≠.defer c:=by rw [ho];intro c' hc;cases hc
   have plain':∀ {r},evx tb get l kn false o.op=some r→r.ob→EvOK P o get l kn r:=fun h hob=>Zn6 htb hmz o h hob
   split at h
   ·obtain ⟨h1,h2,h3⟩:=evFz_ok h hob (fun r' he hob'=>plain' (by rw [ho];exact he) hob')
    exact ⟨⟨Zdd hnd h1,h2,h3⟩,hnd⟩
   ·obtain ⟨h1,h2,h3⟩:=plain' (by rw [ho];exact h) hob
    exact ⟨⟨Zdd hnd h1,h2,h3⟩,hnd⟩
  ·exact plain (by rw [ho];intro c' hc;cases hc) (by rw [ho];exact h)
 ·cases h
 ·rename_i t x lo hi ho
  have hnd:∀ c,o.op≠.defer c:=by rw [ho];intro c' hc;cases hc
  split at h
  ·rename_i k hx
   obtain ⟨h1,h2,h3⟩:=evCut_ok htb ho hx h hob
   exact ⟨⟨Zdd hnd h1,h2,h3⟩,hnd⟩
  ·exact plain hnd (by rw [ho];exact h)
 ·rename_i t x lo hi mx ho
  have hnd:∀ c,o.op≠.defer c:=by rw [ho];intro c' hc;cases hc
  obtain ⟨h1,h2,h3⟩:=evCap_ok (l:=l) (kn:=kn) htb ho h hob
  exact ⟨⟨Zdd hnd h1,h2,h3⟩,hnd⟩
 ·rename_i t q ho
  have hnd:∀ c,o.op≠.defer c:=by rw [ho];intro c' hc;cases hc
  obtain ⟨h1,h2,h3⟩:=Zlc (l:=l) (kn:=kn) htb (o:=o) (by rw [ho];exact h)
  exact ⟨⟨Zdd hnd h1,h2,h3⟩,hnd⟩
 ·rename_i t m x ok ho
  have hnd:∀ c,o.op≠.defer c:=by rw [ho];intro c' hc;cases hc
  obtain ⟨h1,h2,h3⟩:=Zlc (l:=l) (kn:=kn) htb (o:=o) (by rw [ho];exact h)
  exact ⟨⟨Zdd hnd h1,h2,h3⟩,hnd⟩
 ·rename_i t m x y ho
  have hnd:∀ c,o.op≠.defer c:=by rw [ho];intro c' hc;cases hc
  obtain ⟨h1,h2,h3⟩:=Zlc (l:=l) (kn:=kn) htb (o:=o) (by rw [ho];exact h)
  exact ⟨⟨Zdd hnd h1,h2,h3⟩,hnd⟩
 ·rename_i t x ho
  have hnd:∀ c,o.op≠.defer c:=by rw [ho];intro c' hc;cases hc
  obtain ⟨h1,h2,h3⟩:=evIf_ok (l:=l) (kn:=kn) htb ho h
  exact ⟨⟨Zdd hnd h1,h2,h3⟩,hnd⟩
 ·rename_i t a c ho
  have hnd:∀ c,o.op≠.defer c:=by rw [ho];intro c' hc;cases hc
  split at h
  ·obtain ⟨h1,h2,h3⟩:=evFz_ok h hob (fun r' he hob'=>Zn6 htb hmz o (by rw [ho];exact he) hob')
   exact ⟨⟨Zdd hnd h1,h2,h3⟩,hnd⟩
  ·exact plain hnd (by rw [ho];exact h)
 ·rename_i h1 h2 h3 h4 h5 h6 h7 h8 h9
  exact plain (fun c hc=>h2 c hc) h
theorem evStore_rd {i:TI} {l:List (Nat × Option Blk)} {ua ux:AV} {r:EvR} (h:evStore i l ua ux=some r):RdIn l r.rd:=by
 unfold evStore stBox at h
 (repeat' split at h)<;>first
  |(cases h;done)
  |(simp only [Option.some.injEq] at h;subst h;first|exact Zat (by assumption)|exact Zcp (by assumption) (Zat (by assumption)))
theorem evApp_rd {l:List (Nat × Option Blk)} {kn:Nat} {ux uy:AV} {r:EvR} (h:evApp l kn ux uy=some r):RdIn l r.rd:=by
 have hI:∀ {ys rd},srcI l uy=some (ys,rd)→RdIn l rd:=fun h=>(Zji (rd':=_) h (fun _ hp=>hp)).2
 have hB:∀ {ys rd},srcB l uy=some (ys,rd)→RdIn l rd:=fun h=>(Zjj (rd':=_) h (fun _ hp=>hp)).2
 have hR:∀ {ys rd},srcR l uy=some (ys,rd)→RdIn l rd:=fun h=>(Zmd (rd':=_) h (fun _ hp=>hp)).2
 unfold evApp at h
 (repeat' split at h)<;>first
  |(cases h;done)
  |(simp only [Option.some.injEq] at h;subst h;first
    |exact Zcp (by assumption) (hI (by assumption))
    |exact Zcp (by assumption) (hB (by assumption))
    |exact Zcp (by assumption) (hR (by assumption))
    |exact hI (by assumption)
    |exact hB (by assumption)
    |exact hR (by assumption))
theorem evAppS_rd {sz:Nat} {l:List (Nat × Option Blk)} {kn:Nat} {ux uy:AV} {r:EvR} (h:evAppS sz l kn ux uy=some r):RdIn l r.rd:=by
 unfold evAppS at h
 (repeat' split at h)<;>first
  |(cases h;done)
  |(simp only [Option.some.injEq] at h;subst h;first|exact Zan|exact Zat (by assumption))
theorem ofP_rd {l:List (Nat × Option Blk)} {e:Evp} {r:EvR} (h:ofP e=some r) (hrd:∀ v rd ob,e=some (v,rd,ob)→RdIn l rd):RdIn l r.rd:=by
 unfold ofP at h
 split at h
 ·simp only [Option.some.injEq] at h;subst h;exact hrd _ _ _ rfl
 ·cases h
theorem evx_rd {get:Operand→AV} {l:List (Nat × Option Blk)} {kn:Nat} {alt:Bool} {op:Op} {r:EvR} (h:evx tb get l kn alt op=some r):RdIn l r.rd:=by
 unfold evx evBuildS evPick evTake at h
 (repeat' split at h)<;>first
  |(cases h;done)
  |exact evStore_rd h
  |exact evApp_rd h
  |exact evAppS_rd h
  |exact ofP_rd h (fun _ _ _=>evLoad_rd)
  |exact ofP_rd h (fun _ _ _=>evp_rd)
  |(simp only [Option.some.injEq] at h;subst h;first|exact Zan|exact Zat (by assumption))
  |(rename_i hh;(repeat' split at hh)<;>first|(cases hh;done)|(simp only [Option.some.injEq] at h hh;subst h;subst hh;exact Zat (by assumption)))
theorem ev1_rd {get:Operand→AV} {l:List (Nat × Option Blk)} {kn:Nat} {alt:Bool} {op:Op} {r:EvR} (h:ev1 tb sp get l kn alt op=some r):RdIn l r.rd:=by
 unfold ev1 evCall at h
 (repeat' split at h)<;>first
  |(cases h;done)
  |exact evx_rd h
  |exact evCopy_rd h
  |exact evCut_rd h
  |exact evCap_rd h
  |exact evMap_rd h
  |exact evIf_rd h
  |exact evFz_rd h (fun r' he=>evx_rd he)
  |(rw [(ofSR_same h).1];exact view_rd (by assumption))
theorem gds_mem {l:List AV} (h:gds l):∀ u,u∈l→gd u:=by
 induction l with
 |nil=>intro u hu;cases hu
 |cons a t ih =>
  intro u hu
  rcases List.mem_cons.1 hu with rfl|hu
  ·exact h.1
  ·exact ih h.2 u hu
theorem opv_same {e e':Env} {x:Operand} (h:∀ t,x=.tmp t→e t=e' t):opv e x=opv e' x:=by
 cases x with
 |tmp t=>exact h t rfl
 |_=>rfl
theorem evo_ok (htb:Zdf P tb) (hmz:∀ t i,tb t=some i→men noK i.zero=true) (hsp:SpOK P sp) (ops:List Oper) (o:Oper) {e:Env} {l:List (Nat × Option Blk)} {kn:Nat} {alt:Bool} {r:EvR} (h:evo tb sp ops (opv e) l kn alt o=some r) (hob:r.ob) :
  Zlu P ro N ops.toArray o ⟨o.dst,(Zgc o.op.operands.toList++Zen ops o).map (fun t=>(t,e t)),r.val,r.rd,r.wr,r.kn⟩∧RdIn l r.rd∧(r.kn=none∨r.kn=some kn):=by
 have hin:∀ (σ:St) {it:Item} {ins:List (Nat × AV)},Fits N it σ→it.ins=(Zgc o.op.operands.toList++Zen ops o).map (fun t=>(t,e t))→(∀ x,x∈o.op.operands→opv σ.env x=opv e x)∧∀ d,d∈Zen ops o→σ.env d=e d:=by
  intro σ it ins hf hins
  have:∀ t,t∈Zgc o.op.operands.toList++Zen ops o→σ.env t=e t:=fun t ht=>hf.ins (t,e t) (by rw [hins];exact List.mem_map.2 ⟨t,ht,rfl⟩)
  exact ⟨fun x hx=>opv_same fun t ht=>this t (List.mem_append_left _ (mem_tmps (by subst ht;simpa using hx))),fun d hd=>this d (List.mem_append_right _ hd)⟩
 unfold evo at h
 split at h
 ·cases h
 ·rename_i hgu
  have hgn:o.guard=none:=by
   unfold guardOf at hgu
   cases hg:o.guard with
   |none=>rfl
   |some p =>
    rw [hg] at hgu
    dsimp only at hgu
    (repeat' split at hgu)<;>cases hgu
  obtain ⟨⟨hd,hrd,hk⟩,hnd⟩:=ev1_ok (ro:=ro) htb hmz hsp o h hob
  refine ⟨?_,hrd,hk⟩
  intro n K Z ν w a σ hgood hf next Q hnext
  simp only [Region.wanted,hgn,if_true]
  refine ⟨fun _ _=>trivial,?_⟩
  obtain ⟨hx,_⟩:=hin σ (ins:=[]) hf rfl
  refine hd n K Z ν w a σ.mu σ.rs hgood.one hgood.rs hgood.zk hgood.kl (fun x hxm=>?_) hf.rd hf.kn next Q fun y Z' ν' w' hst hν h1 hrs hr hm hz=>hnext Z' ν' w' _ hst hν (hgood.next hf hst hν h1 hrs hr hm hz)
  rw [←hx x hxm]
  exact ⟨Zih hgood x,Zhb hgood x⟩
 ·rename_i g hgu
  -- what the guard says
  have hgw:∀ (σ:St) (K Z:Nat→Prop) (ν:Nat→Value) (w:World) (a:Act),Good K Z N w ν σ a→(∀ d,d∈Zen ops o→σ.env d=e d)→Region.wanted o (yielded ops.toArray a.tmps)=g:=by
   intro σ K Z ν w a hgood hins
   unfold guardOf at hgu
   split at hgu
   ·cases hgu
   ·rename_i j want hg
    split at hgu
    ·rename_i oj hoj
     split at hgu
     ·rename_i d hd
      have hde:σ.env d=e d:=hins d (by unfold Zen;rw [hg];dsimp only;rw [hoj];dsimp only;rw [hd];simp)
      have hr:=(hgood.env d).2
      rw [hde] at hr
      have hyi:yielded ops.toArray a.tmps j=yielded ops.toArray a.tmps j:=rfl
      have hgd:a.tmps.getD d undef=(a.tmps[d]?).getD undef:=by simp [Array.getD_eq_getD_getElem?]
      have hsome:∀ b:Bool,a.tmps.getD d undef=.bool b→yielded ops.toArray a.tmps j=some b:=by
       intro b hb
       have:a.tmps[d]? = some (.bool b):=by
        rw [hgd] at hb
        cases ht:a.tmps[d]? with
        |none=>rw [ht] at hb;cases hb
        |some x=>rw [ht] at hb;simp only [Option.getD_some] at hb;rw [hb]
       unfold yielded
       simp only [List.getElem?_toArray,hoj,Option.bind_some,hd,this]
      have hnone:a.tmps.getD d undef=undef→yielded ops.toArray a.tmps j=none:=by
       intro hb
       unfold yielded
       simp only [List.getElem?_toArray,hoj,Option.bind_some,hd]
       rw [hgd] at hb
       cases ht:a.tmps[d]? with
       |none=>rfl
       |some x=>rw [ht] at hb;simp only [Option.getD_some] at hb;subst hb;rfl
      have hwt:Region.wanted o (yielded ops.toArray a.tmps)=(yielded ops.toArray a.tmps j == some want):=by simp only [Region.wanted,hg]
      rw [hwt]
      split at hgu
      ·rename_i b hb
       simp only [Option.some.injEq] at hgu
       have hb:e d=.bool b:=hb
       rw [hb] at hr
       rw [hsome b (one1 hr),←hgu]
       cases b<;>cases want<;>rfl
      ·rename_i g' u hb
       have hb:e d=.whn g' u:=hb
       rw [hb] at hr
       split at hgu
       ·simp only [Option.some.injEq] at hgu
        subst hgu
        rename_i bb _
        cases g' with
        |true =>
         rw [hsome bb (one1 (hr.1 rfl))]
         cases bb<;>cases want<;>rfl
        |false =>
         rw [hnone (one1 (hr.2 rfl))]
         cases want<;>rfl
       ·cases hgu
      ·cases hgu
     ·cases hgu
    ·cases hgu
  -- what it does where it is wanted
  have fin:∀ (get:Operand→AV) (gs:Prop) (r0:EvR),whnR g gs (some r0)=some r→(g=true→gs→r0.ob→DoOK P ro o get l kn r0)→(g=false→RdIn l r0.rd)→(g=true→gs→∀ (σ:St) (K Z:Nat→Prop) (ν:Nat→Value) (w:World) (a:Act),Good K Z N w ν σ a→(∀ x,x∈o.op.operands→opv σ.env x=opv e x)→∀ x,x∈o.op.operands→R Z w (get x) ν true [a.eval x]∧men σ.mu (get x)=true) →
    Zlu P ro N ops.toArray o ⟨o.dst,(Zgc o.op.operands.toList++Zen ops o).map (fun t=>(t,e t)),r.val,r.rd,r.wr,r.kn⟩∧RdIn l r.rd∧(r.kn=none∨r.kn=some kn):=by
   intro get gs r0 hw hd hrd hrel
   unfold whnR at hw
   dsimp only at hw
   split at hw
   ·rename_i hwr hkn
    simp only [Option.some.injEq] at hw
    subst hw
    refine ⟨?_,?_,.inl rfl⟩
    ·intro n K Z ν w a σ hgood hf next Q hnext
     obtain ⟨hx,hgi⟩:=hin σ (ins:=[]) hf rfl
     rw [hgw σ K Z ν w a hgood hgi]
     cases hgv:g with
     |true =>
      rw [if_pos rfl]
      refine ⟨fun _ _=>trivial,?_⟩
      obtain ⟨hgs,hob0⟩:=hob hgv
      have hD:=(hd hgv hgs hob0).does
      rw [hwr,hkn] at hD
      refine hD n K Z ν w a σ.mu σ.rs hgood.one hgood.rs hgood.zk hgood.kl (hrel hgv hgs σ K Z ν w a hgood hx) hf.rd (fun k hk=>by cases hk) next Q fun y Z' ν' w' hst hν h1 hrs hr hm hz=>hnext Z' ν' w' _ hst hν (hgood.next hf hst hν h1 hrs ⟨fun _=>hr,fun hg'=>absurd (hgv.symm.trans hg') (by simp)⟩ (by show (!g || men (addK σ.mu none) r0.val)=true;rw [hm];simp) hz)
     |false =>
      rw [if_neg (by simp)]
      refine ⟨fun _ _=>trivial,hnext Z ν w _ (Step.refl K Z w) (fun _ _=>rfl) (hgood.next hf (Step.refl K Z w) (fun _ _=>rfl) hgood.one ?_ ⟨fun hg'=>absurd (hgv.symm.trans hg') (by simp),fun _=>rfl⟩ (by show (!g || men (addK σ.mu none) r0.val)=true;rw [hgv];rfl) (fun b hb=>hgood.kl b (hgood.zk b hb)))⟩
      rw [Zbt hgood.zk]
      exact hgood.rs
    ·cases hgv:g with
     |true=>exact (hd hgv (hob hgv).1 (hob hgv).2).rd
     |false=>exact hrd hgv
   ·cases hw
  have rel:∀ (σ:St) (K Z:Nat→Prop) (ν:Nat→Value) (w:World) (a:Act),Good K Z N w ν σ a→(∀ x,x∈o.op.operands→opv σ.env x=opv e x)→∀ x,x∈o.op.operands→R Z w (opv e x) ν true [a.eval x]∧men σ.mu (opv e x)=true:=fun σ K Z ν w a hgood hx x hxm=>by
   rw [←hx x hxm]
   exact ⟨Zih hgood x,Zhb hgood x⟩
  split at h
  ·rename_i c x y ho
   cases he:evPick (opv e c) (opv e x) (opv e y) with
   |none=>rw [he] at h;cases h
   |some r0 =>
    rw [he] at h
    refine fin (opv e) True r0 h (fun _ _ hob0=>?_) (fun _=>?_) (fun _ _=>rel)
    ·obtain ⟨h1,h2,h3⟩:=evPick_ok (P:=P) (l:=l) (kn:=kn) ho he hob0
     exact ⟨Zdd (by rw [ho];intro c hc;cases hc) h1,h2,h3⟩
    ·unfold evPick at he
     (repeat' split at he)<;>first|(cases he;done)|(simp only [Option.some.injEq] at he;subst he;exact Zan)
  ·rename_i op hnp
   cases he:ev1 tb sp (fun x=>strip (opv e x)) l kn alt o.op with
   |none=>rw [he] at h;cases h
   |some r0 =>
    rw [he] at h
    have hrd0:RdIn l r0.rd:=ev1_rd he
    refine fin (fun x=>strip (opv e x)) _ r0 h (fun _ _ hob0=>(ev1_ok htb hmz hsp o he hob0).1) (fun _=>hrd0) (fun _ hgs σ K Z ν w a hgood hx x hxm=>?_)
    have hgdx:gd (opv e x):=gds_mem hgs _ (List.mem_map.2 ⟨x,by simpa using hxm,rfl⟩)
    obtain ⟨r1,r2⟩:=rel σ K Z ν w a hgood hx x hxm
    exact ⟨Zkk hgdx r1,strip_men hgdx r2⟩
end
open Go
section
variable {P:Program} {ro:Option Nat} {N κ:Nat} {tb:Nat→Option TI} {sp:Nat→Option Spec}
def Zdq (N:Nat):List Oper→Bool
 |[]=>true
 |o :: t=>(match o.dst with|some d=>Nat.blt d N|none=>true) && Zdq N t
theorem runsTo_congr {its its':Nat→Item}:∀ {L:List Nat} {s s':St},(∀ i,i∈L→its i=its' i)→Zdh N its L s s'→Zdh N its' L s s':=by
 intro L
 induction L with
 |nil=>intro s s' _ h;exact h
 |cons i L ih =>
  intro s s' he h
  obtain ⟨f,h⟩:=h
  have e:=he i List.mem_cons_self
  exact ⟨e▸f,by rw [←e];exact ih (fun j hj=>he j (List.mem_cons_of_mem _ hj)) h⟩
theorem Zf6 (htb:Zdf P tb) (hmz:∀ t i,tb t=some i→men noK i.zero=true) (hsp:SpOK P sp) (ch:Nat→Bool) (m:Nat) (all:List Oper) (ms:List Nat):∀ (os:List Oper) (i:Nat) (e:List (Nat × AV)) (l:List (Nat × Option Blk)) (μ:Nat→Bool),Zdq N os=true →
  (∀ k,m+i≤k→μ k=false)→(Zb4 tb sp ch m all os i e l).ob→(Zb4 tb sp ch m all os i e l).its.length=os.length∧(∀ j o,os[j]? = some o→Zlu P ro N all.toArray o (Zby (Zb4 tb sp ch m all os i e l).its j)) ∧
   ∃ μ',(∀ k,m+i+os.length≤k→μ' k=false)∧(∀ k,μ k=true→μ' k=true) ∧
    Zdh N (fun x=>Zby (Zb4 tb sp ch m all os i e l).its (x - i)) (List.range' i os.length) ⟨μ,lke e,lkr l,ms⟩ ⟨μ',lke (Zb4 tb sp ch m all os i e l).env,lkr (Zb4 tb sp ch m all os i e l).l,ms⟩:=by
 intro os
 induction os with
 |nil=>intro i e l μ _ hμ _;exact ⟨rfl,fun j o h=>by simp at h,μ,hμ,fun _ h=>h,rfl⟩
 |cons o os ih =>
  intro i e l μ hN hμ hob
  simp only [Zdq,Bool.and_eq_true] at hN
  simp only [Zb4] at hob ⊢
  cases hev:evo tb sp all (opv (lke e)) l (m+i) (ch i) o with
  |none=>rw [hev] at hob;exact hob.elim
  |some r =>
   rw [hev] at hob
   dsimp only at hob ⊢
   obtain ⟨h1,h2,h3⟩:=evo_ok (ro:=ro) (N:=N) htb hmz hsp all o hev hob.1
   have hμ':∀ k,m+(i+1)≤k→addK μ r.kn k=false:=by
    intro k hk
    have h0:=hμ k (by omega)
    rcases h3 with h3|h3
    ·rw [h3];exact h0
    ·rw [h3]
     simp only [addK,h0,Bool.false_or]
     exact beqN (by omega)
   obtain ⟨g1,g2,μ',g3,g4,g5⟩:=ih (i+1) (putE o.dst r.val e) (setW r.wr l) (addK μ r.kn) hN.2 hμ' hob.2
   refine ⟨by simp [g1],fun j o' hj=>?_,μ',fun k hk=>g3 k (by simp at hk;omega),fun k hk=>g4 k (Zci k hk),?_⟩
   ·cases j with
    |zero=>simp at hj;subst hj;exact h1
    |succ j=>exact g2 j o' hj
   ·rw [List.length_cons,List.range'_succ]
    refine ⟨?_,?_⟩
    ·show Fits N (Zby _ (i - i)) _
     rw [Nat.sub_self]
     refine ⟨fun p hp=>?_,h2,fun k hk=>?_,fun d hd=>?_⟩
     ·obtain ⟨t,_,rfl⟩:=List.mem_map.1 hp
      rfl
     ·have hk:r.kn=some k:=hk
      rcases h3 with h3|h3
      ·rw [h3] at hk;cases hk
      ·rw [h3] at hk;cases hk;exact hμ _ (Nat.le_refl _)
     ·have hd:o.dst=some d:=hd
      rw [hd] at hN
      simpa using hN.1
    ·show Zdh N _ _ ((Zby _ (i - i)).app _) _
     rw [Nat.sub_self]
     have happ:(Zby (⟨o.dst,(Zgc o.op.operands.toList++Zen all o).map (fun t=>(t,lke e t)),r.val,r.rd,r.wr,r.kn⟩ :: (Zb4 tb sp ch m all os (i+1) (putE o.dst r.val e) (setW r.wr l)).its) 0).app ⟨μ,lke e,lkr l,ms⟩=⟨addK μ r.kn,lke (putE o.dst r.val e),lkr (setW r.wr l),ms⟩:=by
      rw [Zho,Zhw];rfl
     rw [happ]
     refine runsTo_congr (fun x hx=>?_) g5
     have:i+1≤x:=by
      rw [List.mem_range'] at hx
      obtain ⟨q,_,rfl⟩:=hx
      omega
     obtain ⟨q,rfl⟩:∃ q,x=i+1+q:=⟨x - (i+1),by omega⟩
     show Zby _ (i+1+q - (i+1))=Zby (_ :: _) (i+1+q - i)
     rw [show i+1+q - (i+1)=q from by omega,show i+1+q - i=q+1 from by omega]
     rfl
theorem Good.widen {K Z:Nat→Prop} {w:World} {ν:Nat→Value} {μ μ':Nat→Bool} {env:Env} {rs:Rs} {ms:List Nat} {a:Act} (hg:Good K Z N w ν ⟨μ,env,rs,ms⟩ a) (h:∀ k,μ k=true→μ' k=true):Good K Z N w ν ⟨μ',env,rs,ms⟩ a :=
 ⟨hg.size,hg.one,fun s=>⟨Zdt h (hg.env s).1,(hg.env s).2⟩,hg.rs.nu h (fun _ _=>rfl),hg.zk,hg.kl,hg.ds,fun k hk=>h k (hg.ml k hk)⟩
theorem awp_widen {c:Code} {σ:St} {s:CS} {μ':Nat→Bool} {env:List (Nat × AV)} {l:List (Nat × Option Blk)} {ms:List Nat} {m':Nat} {Q:Exit→St→Prop} (h:awp P ro N κ c σ fun e s=>e=.normal∧s=⟨μ',lke env,lkr l,ms⟩) (hμ:∀ k,m'≤k→μ' k=false) (hq:Q .normal (CS.st ⟨m',env,l,ms⟩)):awp P ro N κ c σ Q:=by
 intro n K Z ν w a hg
 refine wpIn_mono (h n K Z ν w a hg) ?_
 rintro e a' w' ⟨Z',ν',s',h1,h2,h3,rfl,rfl⟩
 refine ⟨Z',ν',_,h1,h2,h3.widen fun k hk=>?_,hq⟩
 show Nat.blt k m'=true
 rw [Nat.blt_eq]
 rcases Nat.lt_or_ge k m' with h|h
 ·exact h
 ·rw [hμ k h] at hk;cases hk
theorem awp_text (htb:Zdf P tb) (hmz:∀ t i,tb t=some i→men noK i.zero=true) (hsp:SpOK P sp) (ch:Nat→Bool) {id:Nat} {ops:List Oper} {s:CS} {Q:Exit→St→Prop} (hN:Zdq N ops=true) (hκ:Nat.ble κ s.m=true)
  (h:∀ q,q=Zb4 tb sp ch s.m ops ops 0 s.env s.rs→q.ob∧Q .normal (CS.st ⟨s.m+ops.length,q.env,q.l,s.ms⟩)):awp P ro N κ (.region id ops.toArray false) s.st Q:=by
 obtain ⟨hob,hq⟩:=h _ rfl
 obtain ⟨h1,h2,μ',h3,h4,h5⟩:=Zf6 (ro:=ro) (N:=N) htb hmz hsp ch s.m ops s.ms ops 0 s.env s.rs (ltK s.m) hN (fun k hk=>by show Nat.blt k s.m=false;cases hb:Nat.blt k s.m with|false=>rfl|true=>rw [Nat.blt_eq] at hb;omega) hob
 refine awp_widen (s:=s) (μ':=μ') ?_ (m':=s.m+ops.length) (fun k hk=>h3 k (by omega)) hq
 intro n K Z ν w a hg
 refine wpIn_region ?_
 rw [List.size_toArray,List.range_eq_range']
 refine Zko (its:=fun x=>Zby (Zb4 tb sp ch s.m ops ops 0 s.env s.rs).its (x - 0)) (σ':=⟨μ',lke (Zb4 tb sp ch s.m ops ops 0 s.env s.rs).env,lkr (Zb4 tb sp ch s.m ops ops 0 s.env s.rs).l,s.ms⟩) ⟨rfl,rfl⟩ (List.range' 0 ops.length) s.st (fun i hi=>?_) (fun k hk=>?_) h5 n K Z ν w a hg
 ·rw [List.mem_range'] at hi
  obtain ⟨q,hq,rfl⟩:=hi
  have hlt:0+1 * q < ops.length:=by omega
  refine ⟨ops[0+1 * q],by simp,?_⟩
  exact h2 _ _ (List.getElem?_eq_getElem hlt)
 ·show Nat.blt k s.m=true
  rw [Nat.blt_eq]
  have:=Nat.le_of_ble_eq_true hκ
  omega
theorem Good.drew {K Z:Nat→Prop} {w:World} {ν:Nat→Value} {σ:St} {a:Act} (hg:Good K Z N w ν σ a) (d:Nat):Good K Z N { w with drawn:=d } ν σ a:=by
 have hz:∀ b,Z b→({ w with drawn:=d }:World).heap[b]? = w.heap[b]?:=fun _ _=>rfl
 refine ⟨hg.size,hg.one,fun s=>⟨(hg.env s).1,Zbc (fun _ h=>h) hz (hg.env s).2⟩,hg.rs.mono (fun _ h=>h) hz (Nat.le_refl _) (fun _ h=>.inl h) (fun _ _ _=>rfl),hg.zk,hg.kl,hg.ds,hg.ml⟩
theorem awp_draw (hmo:P.follows .mixedOrders=true) (htb:Zdf P tb) (hmz:∀ t i,tb t=some i→men noK i.zero=true) (hsp:SpOK P sp) (ch:Nat→Bool) {id:Nat} {ops:List Oper} {s:CS} {Q:Exit→St→Prop} (hN:Zdq N ops=true) (hκ:Nat.ble κ s.m=true)
  (hd:Zkd ops (Zb4 tb sp ch s.m ops ops 0 s.env s.rs).its=true)
  (h:∀ q,q=Zb4 tb sp ch s.m ops ops 0 s.env s.rs→q.ob∧Q .normal (CS.st ⟨s.m+ops.length,q.env,q.l,s.ms⟩)):awp P ro N κ (.region id ops.toArray true) s.st Q:=by
 obtain ⟨hob,hq⟩:=h _ rfl
 obtain ⟨h1,h2,μ',h3,h4,h5⟩:=Zf6 (ro:=ro) (N:=N) htb hmz hsp ch s.m ops s.ms ops 0 s.env s.rs (ltK s.m) hN (fun k hk=>by show Nat.blt k s.m=false;cases hb:Nat.blt k s.m with|false=>rfl|true=>rw [Nat.blt_eq] at hb;omega) hob
 refine awp_widen (s:=s) (μ':=μ') ?_ (m':=s.m+ops.length) (fun k hk=>h3 k (by omega)) hq
 intro n K Z ν w a hg
 refine wpIn_region_any hmo ?_
 have hstep:Step K Z w Z { w with drawn:=w.drawn+1 }:=⟨⟨rfl,rfl,rfl,Nat.le_refl _,fun _ _=>rfl⟩,fun _ h=>h,fun _ h=>.inl h⟩
 have hg1:=hg.drew (w.drawn+1)
 have h5':Zdh N (Zby (Zb4 tb sp ch s.m ops ops 0 s.env s.rs).its) (List.range' 0 ops.length) s.st ⟨μ',lke (Zb4 tb sp ch s.m ops ops 0 s.env s.rs).env,lkr (Zb4 tb sp ch s.m ops ops 0 s.env s.rs).l,s.ms⟩:=h5
 have:=run_any (P:=P) (ro:=ro) (N:=N) (κ:=κ) (ops:=ops.toArray) (Q:=fun e s'=>e=.normal∧s'=⟨μ',lke (Zb4 tb sp ch s.m ops ops 0 s.env s.rs).env,lkr (Zb4 tb sp ch s.m ops ops 0 s.env s.rs).l,s.ms⟩) (Zb4 tb sp ch s.m ops ops 0 s.env s.rs).its hd
  (fun i hi=>⟨ops[i]'(by simpa using hi),by simp,h2 _ _ (List.getElem?_eq_getElem (by simpa using hi))⟩) ⟨rfl,rfl⟩ ops.toArray.size (Array.replicate ops.toArray.size false) (List.range' 0 ops.length) s.st (by simp) (by simp)
  (fun i=>by
   rw [List.mem_range']
   constructor
   ·rintro ⟨q,hq,rfl⟩
    refine ⟨by simp;omega,?_⟩
    simp [Array.getD_eq_getD_getElem?,Array.getElem?_replicate,hq]
   ·rintro ⟨h,_⟩
    exact ⟨i,by simpa using h,by omega⟩)
  (by simpa using List.pairwise_lt_range' (s:=0) (n:=ops.length))
  (fun i o ho hl p hp=>by
   have hi:i < ops.length:=by have:=(Array.getElem?_eq_some_iff.1 ho).1;simpa using this
   simp [Array.getD_eq_getD_getElem?,Array.getElem?_replicate,hi] at hl)
  (fun k hk=>by
   show Nat.blt k s.m=true
   rw [Nat.blt_eq]
   have:=Nat.le_of_ble_eq_true hκ
   omega) h5' n K Z ν _ a hg1
 exact run_any.wpAnyIn_mono' this fun e a' w' hp=>by
  have e:=Post.trans (N:=N) (κ:=κ) (K:=K) (Z:=Z) (w:=w) (ν:=ν) hstep (fun _ _=>rfl) (by rw [Zbt hg.zk];exact hp)
  exact e
end
open Go
def evRes (tb:Nat→Option TI) (s:CS):List ResultVar→Option (List AV)
 |[]=>some []
 |.tmp t :: r=>match evRes tb s r with
  |some l=>some (lke s.env t :: l)
  |none=>none
 |.cell a t :: r=>match tb t with
  |some i=>match lke s.env a with
   |.own k=>match lkr s.rs k with
    |some (.box u)=>match selv i u 0 with
     |some v=>match evRes tb s r with
      |some l=>some (v :: l)
      |none=>none
     |none=>none
    |_=>none
   |_=>none
  |none=>none
def resV : List AV→AV
 |[v]=>v
 |l=>.tup (mkL l)
def zipE : Nat→List AV→List (Nat × AV)
 |_,[]=>[]
 |i,a :: t=>(i,a) :: zipE (i+1) t
def rget (tmps:Array Value):ResultVar→Sem Value
 |.tmp t=>pure (tmps.getD t undef)
 |.cell a t=>do loadVar t (←asAddr (tmps.getD a undef))
theorem results_eq (fn:Func) (tmps:Array Value):results fn tmps=(do let vs ←fn.results.mapM (rget tmps);pure (if h:vs.size=1 then vs[0] else .tuple vs)):=rfl
section
variable {P:Program} {N:Nat} {tb:Nat→Option TI}
theorem results_list (htb:Zdf P tb) {K Z:Nat→Prop} {w:World} {ν:Nat→Value} {s:CS} {σ:St} {a:Act} (hg:Good K Z N w ν σ a) (hen:σ.env=lke s.env) (hrs:∀ k B,lkr s.rs k=some B→B≠.dfr→σ.rs k=some B):∀ (rv:List ResultVar) (l:List AV),evRes tb s rv=some l →
  ∃ ys,(rv.mapM (rget a.tmps)).run P w=.ok ys w∧R Z w (mkL l) ν true ys∧men σ.mu (mkL l)=true∧ys.length=l.length:=by
 intro rv
 induction rv with
 |nil=>intro l h;simp only [evRes,Option.some.injEq] at h;subst h;exact ⟨[],rfl,rfl,rfl,rfl⟩
 |cons r rv ih =>
  intro l h
  cases r with
  |tmp t =>
   simp only [evRes] at h
   split at h
   ·rename_i l' hl
    simp only [Option.some.injEq] at h
    subst h
    obtain ⟨ys,h1,h2,h3,h4⟩:=ih l' hl
    have he:=hg.env t
    rw [hen] at he
    refine ⟨a.tmps.getD t undef :: ys,?_,⟨_,_,rfl,he.2,h2⟩,by simp only [mkL,men,h3,Bool.and_true];exact he.1,by simp [h4]⟩
    rw [List.mapM_cons]
    simp only [rget,Sem.run_bind,Sem.run_pure,h1,Result.andThen_ok]
   ·cases h
  |cell p t =>
   simp only [evRes] at h
   split at h
   ·rename_i i ht
    split at h
    ·rename_i k hk
     split at h
     ·rename_i u hu
      split at h
      ·rename_i v hv
       split at h
       ·rename_i l' hl
        simp only [Option.some.injEq] at h
        subst h
        obtain ⟨ys,h1,h2,h3,h4⟩:=ih l' hl
        have he:=hg.env p
        have hkk:σ.env p=.own k:=by rw [hen];exact hk
        rw [hkk] at he
        obtain ⟨b,cells,T,hx,hb,r,hmu⟩:=Zl5 hg.rs (hrs k _ hu (by simp))
        obtain ⟨x,hx2,rx⟩:=Zhl (P:=P) (o:=0) (q:=0) (b:=b) (htb t i ht) r (Zh4 hb) hv
        have hp:a.tmps.getD p undef=.pointer (some ⟨b,0,none⟩):=by rw [one1 he.2,hx]
        have hl2:(loadVar t ⟨b,0,none⟩).run P w=.ok x w:=by
         simpa [Instr.loadAt,Instr.sureAddr,Sem.run_bind,Result.andThen] using hx2
        refine ⟨x :: ys,?_,⟨_,_,rfl,rx,h2⟩,by simp only [mkL,men,h3,Bool.and_true];exact Zjr hmu hv,by simp [h4]⟩
        have hget:(rget a.tmps (.cell p t)).run P w=.ok x w:=by
         simp only [rget,Sem.run_bind,hp,asAddr,Sem.run_pure,Result.andThen_ok,hl2]
        rw [List.mapM_cons]
        simp only [Sem.run_bind,hget,Sem.run_pure,Result.andThen_ok,h1]
       ·cases h
      ·cases h
     ·cases h
    ·cases h
   ·cases h
theorem results_ok (htb:Zdf P tb) {K Z:Nat→Prop} {w:World} {ν:Nat→Value} {s:CS} {σ:St} {a:Act} {fn:Func} {l:List AV} (hg:Good K Z N w ν σ a) (hen:σ.env=lke s.env) (hrs:∀ k B,lkr s.rs k=some B→B≠.dfr→σ.rs k=some B) (h:evRes tb s fn.results.toList=some l) :
  ∃ y,(results fn a.tmps).run P w=.ok y w∧R Z w (resV l) ν true [y]∧men σ.mu (resV l)=true:=by
 obtain ⟨ys,h1,h2,h3,h4⟩:=results_list htb hg hen hrs _ l h
 have hm:(fn.results.mapM (rget a.tmps)).run P w=.ok ys.toArray w:=by
  rw [Array.mapM_eq_mapM_toList,map_eq_pure_bind,Sem.run_bind,h1];rfl
 have hres:(results fn a.tmps).run P w=.ok (if h:ys.toArray.size=1 then ys.toArray[0] else .tuple ys.toArray) w:=by
  rw [results_eq,Sem.run_bind,hm];rfl
 refine ⟨_,hres,?_⟩
 cases l with
 |nil =>
  have:ys=[]:=h2
  subst this
  exact ⟨⟨[],rfl,rfl⟩,rfl⟩
 |cons v l =>
  cases l with
  |nil =>
   obtain ⟨y,ys',rfl,r1,r2⟩:=h2
   have:ys'=[]:=r2
   subst this
   simp only [mkL,men,Bool.and_true] at h3
   exact ⟨r1,h3⟩
  |cons v2 l =>
   have hn:¬ ys.toArray.size=1:=by simp [h4]
   rw [dif_neg hn]
   exact ⟨⟨ys,rfl,h2⟩,h3⟩
theorem leaves_marks {F:Fence} {n:Nat} {fn:Func} {tmps:Array Value} {R:Ending→World→Prop} {u:FrameMode} (hu:u≠.run):∀ (B:List Nat) (w:World),(∀ b,b∈B→w.heap[b]? = some (.deferred (some [])))→B.Nodup →
  (∀ w',Ext (fun b=>b ∉ B) w w'→w'.heap.size=w.heap.size→LeavesInM F n P fn tmps R [] u w')→LeavesInM F n P fn tmps R (B.map fun r=>{ target:=.collected r,args := #[] }) u w
 |[],w,_,_,hq=>hq w ⟨rfl,rfl,rfl,Nat.le_refl _,fun _ _=>rfl⟩ rfl
 |b :: B,w,hb,hn,hq=>by
  rw [List.nodup_cons] at hn
  have hw1:∀ y,y≠b→(w.putObj b (.deferred none)).heap[y]? = w.heap[y]?:=fun y hy=>by
   simp [World.putObj,Array.getElem?_setIfInBounds,Ne.symm hy]
  have hw2:(w.putObj b (.deferred none)).heap.size=w.heap.size:=by simp [World.putObj]
  refine ⟨hu,.inl ⟨b,w.putObj b (.deferred none),rfl,run_takeDeferred (hb b List.mem_cons_self),?_⟩⟩
  refine leaves_marks hu B _ (fun y hy=>(hw1 y (fun e=>hn.1 (e▸hy))).trans (hb y (List.mem_cons_of_mem _ hy))) hn.2 fun w' he hs=>?_
  refine hq w' ⟨he.os,he.tape,he.output,by omega,fun y hy=>?_⟩ (hs.trans hw2)
  simp only [List.mem_cons,not_or] at hy
  exact (he.block y hy.2).trans (hw1 y hy.1)
theorem marks_of {K Z:Nat→Prop} {w:World} {ν:Nat→Value} {μ:Nat→Bool} {rs:Rs} {Ft:Nat→Nat→Prop} (hF:∀ k b,rs k=some b→μ k=true∧menB μ b∧sat Z w ν (ν k) (Ft k) b∧(∀ x,Ft k x→¬ K x∧x < w.heap.size)∧∀ k' b',k≠k'→rs k'=some b'→∀ x,Ft k x→¬ Ft k' x) :
  ∀ (ms:List Nat),(∀ k,k∈ms→rs k=some .dfr)→ms.Nodup→∃ B:List Nat,ms.flatMap (fun k=>Ze5 (ν k))=B.map (fun r=>({ target:=.collected r,args := #[] }:Deferred))∧B.Nodup∧(∀ b,b∈B→w.heap[b]? = some (.deferred (some [])))∧∀ b,b∈B↔∃ k,k∈ms∧Ft k b
 |[],_,_=>⟨[],rfl,List.nodup_nil,fun b hb=>absurd hb List.not_mem_nil,fun b=>⟨fun hb=>absurd hb List.not_mem_nil,fun ⟨k,hk,_⟩=>absurd hk List.not_mem_nil⟩⟩
 |k :: ms,hd,hn=>by
  rw [List.nodup_cons] at hn
  obtain ⟨B,h1,h2,h3,h4⟩:=marks_of hF ms (fun j hj=>hd j (List.mem_cons_of_mem _ hj)) hn.2
  obtain ⟨_,_,⟨bs,hx,hb,hnd,hFF⟩,_,hdis⟩:=hF k .dfr (hd k List.mem_cons_self)
  refine ⟨bs++B,?_,?_,fun b hb2=>?_,fun b=>?_⟩
  ·rw [List.flatMap_cons,h1,List.map_append]
   rw [hx,Zhu]
  ·rw [List.nodup_append]
   refine ⟨hnd,h2,fun a ha b hb2 e=>?_⟩
   subst e
   obtain ⟨j,hj,hFj⟩:=(h4 a).1 hb2
   exact hdis j .dfr (fun e=>hn.1 (e▸hj)) (hd j (List.mem_cons_of_mem _ hj)) a ((hFF a).2 ha) hFj
  ·rcases List.mem_append.1 hb2 with h|h
   ·exact hb b h
   ·exact h3 b h
  ·rw [List.mem_append,h4]
   constructor
   ·rintro (h|⟨j,hj,h⟩)
    ·exact ⟨k,List.mem_cons_self,(hFF b).2 h⟩
    ·exact ⟨j,List.mem_cons_of_mem _ hj,h⟩
   ·rintro ⟨j,hj,h⟩
    rcases List.mem_cons.1 hj with rfl|hj
    ·exact .inl ((hFF b).1 h)
    ·exact .inr ⟨j,hj,h⟩
theorem leaves_ok {F:Fence} {n:Nat} {fn:Func} {R:Ending→World→Prop} {u:FrameMode} (hu:u≠.run) (ms:List Nat) (K Z:Nat→Prop) (ν:Nat→Value) (w:World) (μ:Nat→Bool) (env:Env) (rs:Rs) (a:Act) (hg:Good K Z N w ν ⟨μ,env,rs,ms⟩ a) (hdf:∀ k,k∈ms→rs k=some .dfr) (hnd:ms.Nodup)
  (hq:∀ w' rs',Step K Z w Z w'→Good K Z N w' ν ⟨μ,env,rs',[]⟩ { a with defers:=[] }→(∀ k,k ∉ ms→rs' k=rs k)→LeavesInM F n P fn a.tmps R [] u w'):LeavesInM F n P fn a.tmps R a.defers u w:=by
 obtain ⟨Ft,hF⟩:=id hg.rs
 obtain ⟨B,h1,h2,h3,h4⟩:=marks_of hF ms hdf hnd
 have hd:a.defers=ms.flatMap (fun k=>Ze5 (ν k)):=hg.ds
 rw [hd,h1]
 refine leaves_marks hu B w h3 h2 fun w' he hs=>?_
 have hBK:∀ b,b∈B→¬ K b:=fun b hb=>by
  obtain ⟨k,hk,hFk⟩:=(h4 b).1 hb
  exact ((hF k .dfr (hdf k hk)).2.2.2.1 b hFk).1
 have hK:∀ y,K y→w'.heap[y]? = w.heap[y]?:=fun y hy=>he.block y fun hb=>hBK y hb hy
 have hstep:Step K Z w Z w':=⟨⟨he.os,he.tape,he.output,he.size,hK⟩,fun _ h=>h,fun _ h=>.inl h⟩
 classical
 refine hq w' (fun k=>if k∈ms then none else rs k) hstep ?_ fun k hk=>if_neg hk
 refine ⟨hg.size,hg.one,fun s=>⟨(hg.env s).1,Zbc (fun _ h=>h) (fun y hy=>hK y (hg.zk y hy)) (hg.env s).2⟩,⟨Ft,fun k b hk=>?_⟩,hg.zk,fun y hy=>by rw [hs];exact hg.kl y hy,rfl,fun k hk=>by cases hk⟩
 by_cases hkm:k∈ms
 ·simp only [if_pos hkm] at hk;cases hk
 simp only [if_neg hkm] at hk
 obtain ⟨g1,g2,g3,g4,g5⟩:=hF k b hk
 refine ⟨g1,g2,Zbl (fun _ h=>h) (fun y hy=>hK y (hg.zk y hy)) (fun y hy=>he.block y fun hb=>?_) g3,fun y hy=>⟨(g4 y hy).1,by rw [hs];exact (g4 y hy).2⟩,fun k' b' hne hk'=>?_⟩
 ·obtain ⟨j,hj,hFj⟩:=(h4 y).1 hb
  exact g5 j .dfr (fun e=>hkm (e▸hj)) (hdf j hj) y hy hFj
 ·by_cases hkm':k'∈ms
  ·simp only [if_pos hkm'] at hk';cases hk'
  ·simp only [if_neg hkm'] at hk'
   exact g5 k' b' hne hk'
theorem Zlk {P:Program} {f:Nat} {vals:Array Value} {w:World} {R R':Ending→World→Prop} (h:Calls P f vals w R) (hr:∀ e w',R e w'→R' e w'):Calls P f vals w R' :=
 CallsIn.calls (F:=FF none) (n:=0) (CallsIn.mono (Zeo h) hr) (fun k d hd=>by cases hd)
def Zmv (tb:Nat→Option TI) (fn:Func) (κ:Nat) (Q:CS→AV→Prop):Exit→St→Prop
 |.normal,s | .ret,s=>∃ (cs:CS) (l:List AV),s=cs.st∧evRes tb cs fn.results.toList=some l∧(∀ k,k∈cs.ms→lkr cs.rs k=some .dfr)∧cs.ms.Nodup∧κ≤cs.m∧Q cs (resV l)
 |_,_=>False
def Zl2 (tb:Nat→Option TI) (fn:Func) (κ:Nat) (E:List PanicEntry→Prop) (Q:CS→AV→Prop):Exit→St→Prop
 |.normal,s | .ret,s=>∃ (cs:CS) (l:List AV),s=cs.st∧evRes tb cs fn.results.toList=some l∧(∀ k,k∈cs.ms→lkr cs.rs k=some .dfr)∧cs.ms.Nodup∧κ≤cs.m∧Q cs (resV l)
 |.panic c,s=>E c∧∃ cs:CS,s=cs.st∧(∀ k,k∈cs.ms→lkr cs.rs k=some .dfr)∧cs.ms.Nodup
 |_,_=>False
def Zmn (l:List (Nat × Option Blk)) (rs:Rs):Prop:=∀ k B,lkr l k=some B→B≠.dfr→rs k=some B
theorem fcallp_of (htb:Zdf P tb) {f κ:Nat} {fn:Func} {c:Code} {args:List AV} {rin:List (Nat × Option Blk)} {E:List PanicEntry→Prop} {Q:AV→(Nat→Bool)→Rs→Prop} (hf:P.funcs[f]? = some fn) (hb:fn.body=some c) (hN:args.length≤fn.ntmps)
  (h:awp P none fn.ntmps κ c (CS.st ⟨κ,zipE 0 args,rin,[]⟩) (Zl2 tb fn κ E fun cs v=>∀ rs,Zmn cs.rs rs→Q v (ltK cs.m) rs)):FCallP P f κ args (lkr rin) E Q:=by
 intro K Z ν w vals h1 hr hm hrs hzk hkl
 have hlen:vals.size=args.length:=by
  have:∀ (args:List AV) (cs:List Value),R Z w (mkL args) ν true cs→cs.length=args.length:=by
   intro args
   induction args with
   |nil=>intro cs h;rw [show cs=[] from h];rfl
   |cons a t ih=>intro cs h;obtain ⟨v,vs,rfl,_,r2⟩:=h;simp [ih vs r2]
  simpa using this args _ hr
 have hnth:∀ (args:List AV) (i s:Nat) (cs:List Value),R Z w (mkL args) ν true cs→men (ltK κ) (mkL args)=true→men (ltK κ) (lke (zipE i args) s)=true∧((i≤s∧s < i+args.length→R Z w (lke (zipE i args) s) ν true [cs.getD (s - i) undef])∧(¬ (i≤s∧s < i+args.length)→lke (zipE i args) s=.any)):=by
  intro args
  induction args with
  |nil=>intro i s cs _ _;exact ⟨rfl,fun h=>by simp at h;omega,fun _=>rfl⟩
  |cons a t ih =>
   intro i s cs hr hm
   obtain ⟨v,vs,rfl,r1,r2⟩:=hr
   simp only [mkL,men,Bool.and_eq_true] at hm
   obtain ⟨g1,g2,g3⟩:=ih (i+1) s vs r2 hm.2
   by_cases hs:s=i
   ·subst hs
    simp only [zipE,lke,Nat.beq_refl]
    exact ⟨hm.1,fun _=>by rw [Nat.sub_self];exact r1,fun hn=>absurd ⟨Nat.le_refl s,by simp⟩ hn⟩
   ·simp only [zipE,lke,beqN hs]
    refine ⟨g1,fun hh=>?_,fun hn=>g3 fun hh=>hn ⟨by omega,by simp only [List.length_cons];omega⟩⟩
    have:=g2 ⟨by omega,by simp only [List.length_cons] at hh;omega⟩
    rw [show s - i=(s - (i+1))+1 from by omega]
    exact this
 have hgood:Good K Z fn.ntmps w ν (CS.st ⟨κ,zipE 0 args,rin,[]⟩) { tmps:=vals++Array.replicate (fn.ntmps - vals.size) undef,defers:=[] }:=by
  refine ⟨by simp;omega,h1,fun s=>?_,hrs,hzk,hkl,rfl,fun k hk=>by cases hk⟩
  obtain ⟨g1,g2,g3⟩:=hnth args 0 s vals.toList hr hm
  refine ⟨g1,?_⟩
  show R Z w (lke (zipE 0 args) s) ν true _
  by_cases hs:s < args.length
  ·have:=g2 ⟨by omega,by omega⟩
   have e:(vals++Array.replicate (fn.ntmps - vals.size) undef).getD s undef=vals.toList.getD (s - 0) undef:=by
    simp [Array.getD_eq_getD_getElem?,List.getD_eq_getElem?_getD,Array.getElem?_append_left (show s < vals.size by omega)]
   show R Z w _ ν true [(vals++Array.replicate (fn.ntmps - vals.size) undef).getD s undef]
   rw [e];exact this
  ·rw [g3 (by omega)];exact ⟨_,rfl⟩
 have:=callsIn_of_wp_marks (F:=FF none) (n:=0) (R:=fun e w'=>(∃ (y:Value) (Z':Nat→Prop) (ν':Nat→Value) (v:AV) (μ':Nat→Bool) (rs':Rs),e=.returned y∧Step K Z w Z' w'∧(∀ k,(ν' k).oneCell'=true)∧(∀ k,k < κ→ν' k=ν k)∧(∀ k,k < κ→μ' k=true) ∧
   R Z' w' v ν' true [y]∧men μ' v=true∧GoodRs (un K Z') Z' w' ν' μ' rs'∧(∀ b,Z' b→b < w'.heap.size)∧Q v μ' rs')∨∃ c,E c∧e=.panicked c∧Step K Z w Z w') (args:=vals) (w:=w) hf hb trivial (wpIn_mono (h 0 K Z ν w _ hgood) ?_)
 ·exact CallsIn.calls this (fun k d hd=>by cases hd)
 ·rintro e a' w' ⟨Z',ν',σ',hst,hν,hg,hq⟩
  have key:∀ (cs:CS) (l:List AV),σ'=cs.st→evRes tb cs fn.results.toList=some l→(∀ k,k∈cs.ms→lkr cs.rs k=some .dfr)→cs.ms.Nodup→κ≤cs.m→(∀ rs,Zmn cs.rs rs→Q (resV l) (ltK cs.m) rs)→LeavesInM (FF none) 0 P fn a'.tmps (fun e w'=>(∃ (y:Value) (Z':Nat→Prop) (ν':Nat→Value) (v:AV) (μ':Nat→Bool) (rs':Rs),e=.returned y∧Step K Z w Z' w'∧(∀ k,(ν' k).oneCell'=true)∧(∀ k,k < κ→ν' k=ν k)∧(∀ k,k < κ→μ' k=true) ∧
    R Z' w' v ν' true [y]∧men μ' v=true∧GoodRs (un K Z') Z' w' ν' μ' rs'∧(∀ b,Z' b→b < w'.heap.size)∧Q v μ' rs')∨∃ c,E c∧e=.panicked c∧Step K Z w Z w') a'.defers .returning w':=by
   intro cs l e1 e2 e3 e4 e5 e6
   subst e1
   refine leaves_ok (by simp) cs.ms (un K Z') Z' ν' w' _ _ _ a' hg e3 e4 fun w2 rs2 hs2 hg2 hr2=>?_
   have hnd:∀ k B,lkr cs.rs k=some B→B≠.dfr→rs2 k=some B:=fun k B hk hB=>by
    rw [hr2 k (fun hm=>by rw [e3 k hm] at hk;cases hk;exact hB rfl)];exact hk
   -- the values, in the last world
   obtain ⟨y,hy,hry,hmy⟩:=results_ok htb hg2 rfl hnd e2
   show ∃ v,(results fn a'.tmps).run P w2=.ok v w2∧_
   exact ⟨y,hy,.inl ⟨y,Z',ν',resV l,ltK cs.m,rs2,rfl,hst.trans hs2,hg2.one,hν,fun k hk=>by show Nat.blt k cs.m=true;rw [Nat.blt_eq];omega,hry,hmy,hg2.rs,fun b hb=>hg2.kl b (hg2.zk b hb),e6 rs2 hnd⟩⟩
  cases e with
  |normal=>obtain ⟨cs,l,e1,e2,e3,e4,e5,e6⟩:=hq;exact key cs l e1 e2 e3 e4 e5 e6
  |ret=>obtain ⟨cs,l,e1,e2,e3,e4,e5,e6⟩:=hq;exact key cs l e1 e2 e3 e4 e5 e6
  |panic c =>
   obtain ⟨hE,cs,rfl,e3,e4⟩:=hq
   refine leaves_ok (by simp) cs.ms (un K Z') Z' ν' w' _ _ _ a' hg e3 e4 fun w2 rs2 hs2 hg2 hr2=>?_
   refine .inr ⟨c,hE,rfl,?_⟩
   have hs:=hst.trans hs2
   exact ⟨hs.ext,fun _ h=>h,fun _ h=>.inl h⟩
  |_=>exact hq.elim
theorem fcall_of (htb:Zdf P tb) {f κ:Nat} {fn:Func} {c:Code} {args:List AV} {rin:List (Nat × Option Blk)} {Q:AV→(Nat→Bool)→Rs→Prop} (hf:P.funcs[f]? = some fn) (hb:fn.body=some c) (hN:args.length≤fn.ntmps)
  (h:awp P none fn.ntmps κ c (CS.st ⟨κ,zipE 0 args,rin,[]⟩) (Zmv tb fn κ fun cs v=>∀ rs,Zmn cs.rs rs→Q v (ltK cs.m) rs)):Zo8 P f κ args (lkr rin) Q:=by
 intro K Z ν w vals h1 hr hm hrs hzk hkl
 refine Zlk (fcallp_of (E:=fun _=>False) htb hf hb hN (Zh6 h fun e s hq=>?_) K Z ν w vals h1 hr hm hrs hzk hkl) fun e w' hq=>hq.elim id fun ⟨_,hc,_⟩=>hc.elim
 cases e<;>first|exact hq|exact hq.elim
end
end Go.Proofs.YtjcmlflljibikaaGreatDoor.Cal
