/- Own texts, merged. -/
import Derived.WalkKit
import Derived.KernelRfl
import Derived.RangeFuncNested
import Derived.RangeFuncRecord
import Derived.RangeFuncCalls
import Derived.OrdersIn
import Derived.IntWalk
import Derived.Shelf.Abstract
import Derived.Laws.Tables
set_option linter.unusedVariables false
set_option linter.unusedSimpArgs false
open Nat (reduceAdd reduceSub reduceMul reduceEqDiff reduceLeDiff reduceLT)
namespace Go.Proofs.YtjcmlflljibikaaGreatDoor.Cal
open Go
def lim : Nat:=140737488355328
inductive AV where
 |any
 |int (k:IntKind) (n:Int)
 |bool (b:Bool)
 |cst (v:Value)
 |own (k:Nat)
 |adr (k sz i o:Nat)
 |roI (xs:List Int)
 |roB (xs:List Bool)
 |roII (xss:List (List Int))
 |ro (sz n:Nat) (f:Nat→AV)
 |rop (u:AV)
 |agg (l:AV)
 |tup (l:AV)
 |nil
 |cons (h t:AV)
 |fn (f:Nat) (caps:AV)
 |yld (k:Nat)
 |whn (g:Bool) (u:AV)
def Zgk : Value→Option (Nat × Nat)
 |.slice (some ⟨b,o,none⟩) _ _=>some (b,o)
 |.pointer (some ⟨b,o,none⟩)=>some (b,o)
 |_=>none
def nu0 : Nat→Value:=fun _=>.nilFunc
def noK : Nat→Bool:=fun _=>false
def men (μ:Nat→Bool):AV→Bool
 |.own k=>μ k
 |.adr k _ _ _=>μ k
 |.agg l=>men μ l
 |.tup l=>men μ l
 |.cons h t=>men μ h && men μ t
 |.fn _ c=>men μ c
 |.yld k=>μ k
 |.whn g u => !g || men μ u
 |_=>true
def Zfp (Z:Nat→Prop) (w:World) (sz n:Nat) (g:Nat→List Value→Prop) (cs:List Value):Prop :=
 ∃ A cap,cs=[.slice A n cap]∧n≤cap∧n≤lim ∧
  (0 < n→∃ b o,A=some ⟨b,o,none⟩∧Z b∧∀ j,j < n→∃ es,g j es∧es.length=sz∧∀ (i:Nat) c,es[i]? = some c→w.cell? ⟨b,o+(j * sz+i),none⟩=some c)
def Zdp (xs:List Int) (j:Nat) (es:List Value):Prop:=es=[.int .i64 (xs.getD j 0)]
def Zd0 (xs:List Bool) (j:Nat) (es:List Value):Prop:=es=[.bool (xs.getD j false)]
def R (Z:Nat→Prop) (w:World):AV→(Nat→Value)→Bool→List Value→Prop
 |.any,_,_,cs=>∃ v,cs=[v]
 |.int k n,_,_,cs=>cs=[.int k n]
 |.bool b,_,_,cs=>cs=[.bool b]
 |.cst v,_,_,cs=>cs=[v]
 |.own k,ν,_,cs=>cs=[ν k]
 |.adr k sz i o,ν,_,cs=>∃ b f,Zgk (ν k)=some (b,f)∧cs=[.pointer (some ⟨b,f+(i * sz+o),none⟩)]
 |.roI xs,_,_,cs=>Zfp Z w 1 xs.length (Zdp xs) cs
 |.roB xs,_,_,cs=>Zfp Z w 1 xs.length (Zd0 xs) cs
 |.roII xss,_,_,cs=>Zfp Z w 1 xss.length (fun j es=>Zfp Z w 1 (xss.getD j []).length (Zdp (xss.getD j [])) es) cs
 |.ro sz n f,_,_,cs=>Zfp Z w sz n (fun j es=>men noK (f j)=true∧R Z w (f j) nu0 false es) cs
 |.rop u,_,_,cs=>∃ b o,cs=[.pointer (some ⟨b,o,none⟩)]∧Z b∧men noK u=true∧∃ es,R Z w u nu0 false es∧∀ (i:Nat) c,es[i]? = some c→w.cell? ⟨b,o+i,none⟩=some c
 |.agg l,ν,true,cs=>∃ es,cs=[.agg es.toArray]∧R Z w l ν true es
 |.agg l,ν,false,cs=>R Z w l ν true cs
 |.tup l,ν,_,cs=>∃ es,cs=[.tuple es.toArray]∧R Z w l ν true es
 |.nil,_,_,cs=>cs=[]
 |.cons h t,ν,_,cs=>∃ v vs,cs=v :: vs∧R Z w h ν true [v]∧R Z w t ν true vs
 |.fn f caps,ν,_,cs=>∃ vs,cs=[.func (.func f) #[] vs.toArray]∧R Z w caps ν true vs
 |.yld k,ν,_,cs=>∃ l,ν k=.map (some l)∧cs=[.func (.yield l) #[] #[]]
 |.whn g u,ν,_,cs=>(g=true→R Z w u ν true cs)∧(g=false→cs=[undef])
theorem Zbk {Z Z':Nat→Prop} {w w':World} {sz n:Nat} {g g':Nat→List Value→Prop} {cs:List Value} (hZ:∀ b,Z b→Z' b) (hw:∀ b,Z b→w'.heap[b]? = w.heap[b]?)
  (hg:∀ j es,j < n→g j es→g' j es) (h:Zfp Z w sz n g cs):Zfp Z' w' sz n g' cs:=by
 obtain ⟨A,cap,e,h1,h2,h3⟩:=h
 refine ⟨A,cap,e,h1,h2,fun hn=>?_⟩
 obtain ⟨b,o,eA,hz,hj⟩:=h3 hn
 refine ⟨b,o,eA,hZ b hz,fun j hjn=>?_⟩
 obtain ⟨es,r,hl,hc⟩:=hj j hjn
 exact ⟨es,hg j es hjn r,hl,fun i c hi=>(World.cell?_of_block (w:=w) (hw b hz)).trans (hc i c hi)⟩
theorem Zbc {Z Z':Nat→Prop} {w w':World} (hZ:∀ b,Z b→Z' b) (hw:∀ b,Z b→w'.heap[b]? = w.heap[b]?) :
  ∀ {av:AV} {ν:Nat→Value} {m:Bool} {cs:List Value},R Z w av ν m cs→R Z' w' av ν m cs:=by
 intro av
 induction av with
 |roI xs=>intro ν m cs h;exact Zbk hZ hw (fun _ _ _ h=>h) h
 |roB xs=>intro ν m cs h;exact Zbk hZ hw (fun _ _ _ h=>h) h
 |roII xss=>intro ν m cs h;exact Zbk hZ hw (fun _ _ _ h=>Zbk hZ hw (fun _ _ _ h=>h) h) h
 |ro sz n f ih=>intro ν m cs h;exact Zbk hZ hw (fun j _ _ h=>⟨h.1,ih j h.2⟩) h
 |rop u ih =>
  intro ν m cs h
  obtain ⟨b,o,e,hz,hm,es,r,hc⟩:=h
  exact ⟨b,o,e,hZ b hz,hm,es,ih r,fun i c hi=>(World.cell?_of_block (w:=w) (hw b hz)).trans (hc i c hi)⟩
 |agg l ih =>
  intro ν m cs h
  cases m with
  |true=>obtain ⟨es,e,r⟩:=h;exact ⟨es,e,ih r⟩
  |false=>exact ih (m:=true) h
 |tup l ih=>intro ν m cs h;obtain ⟨es,e,r⟩:=h;exact ⟨es,e,ih r⟩
 |cons h t ih1 ih2=>intro ν m cs hh;obtain ⟨v,vs,e,r1,r2⟩:=hh;exact ⟨v,vs,e,ih1 r1,ih2 r2⟩
 |fn f c ih=>intro ν m cs h;obtain ⟨vs,e,r⟩:=h;exact ⟨vs,e,ih r⟩
 |whn g u ih=>intro ν m cs h;exact ⟨fun hg=>ih (h.1 hg),h.2⟩
 |_=>intro ν m cs h;exact h
theorem R_nu {Z:Nat→Prop} {w:World} {μ:Nat→Bool} {ν ν':Nat→Value} (hν:∀ k,μ k=true→ν' k=ν k) :
  ∀ {av:AV} {m:Bool} {cs:List Value},men μ av=true→R Z w av ν m cs→R Z w av ν' m cs:=by
 intro av
 induction av with
 |own k=>intro m cs hm h;show cs=[ν' k];rw [hν k hm];exact h
 |adr k sz i o=>intro m cs hm h;show ∃ b f,Zgk (ν' k)=some (b,f)∧_;rw [hν k hm];exact h
 |yld k=>intro m cs hm h;show ∃ l,ν' k=.map (some l)∧_;rw [hν k hm];exact h
 |agg l ih =>
  intro m cs hm h
  cases m with
  |true=>obtain ⟨es,e,r⟩:=h;exact ⟨es,e,ih hm r⟩
  |false=>exact ih (m:=true) hm h
 |tup l ih=>intro m cs hm h;obtain ⟨es,e,r⟩:=h;exact ⟨es,e,ih hm r⟩
 |cons h t ih1 ih2 =>
  intro m cs hm hh
  simp only [men,Bool.and_eq_true] at hm
  obtain ⟨v,vs,e,r1,r2⟩:=hh
  exact ⟨v,vs,e,ih1 hm.1 r1,ih2 hm.2 r2⟩
 |fn f c ih=>intro m cs hm h;obtain ⟨vs,e,r⟩:=h;exact ⟨vs,e,ih hm r⟩
 |whn g u ih=>intro m cs hm h;exact ⟨fun hg=>ih (by subst hg;exact hm) (h.1 hg),h.2⟩
 |_=>intro m cs hm h;exact h
theorem Zdt {μ μ':Nat→Bool} (hle:∀ k,μ k=true→μ' k=true):∀ {av:AV},men μ av=true→men μ' av=true:=by
 intro av
 induction av with
 |own k=>intro h;exact hle _ h
 |adr k _ _ _=>intro h;exact hle _ h
 |yld k=>intro h;exact hle _ h
 |agg l ih=>exact ih
 |tup l ih=>exact ih
 |fn f c ih=>exact ih
 |whn g u ih=>intro h;cases g with
  |true=>exact ih h
  |false=>rfl
 |cons h t ih1 ih2=>intro hh;simp only [men,Bool.and_eq_true] at *;exact ⟨ih1 hh.1,ih2 hh.2⟩
 |_=>intro h;rfl
theorem Zdi {Z:Nat→Prop} {w:World} {ν ν':Nat→Value} {av:AV} {m:Bool} {cs:List Value} (hm:men noK av=true) (h:R Z w av ν m cs):R Z w av ν' m cs:=R_nu (μ:=noK) (fun _ h=>by cases h) hm h
theorem Zce {μ:Nat→Bool} {av:AV} (hm:men noK av=true):men μ av=true:=Zdt (fun _ h=>by cases h) hm
def ren (ρ:Nat→Nat):AV→AV
 |.own k=>.own (ρ k)
 |.adr k sz i o=>.adr (ρ k) sz i o
 |.agg l=>.agg (ren ρ l)
 |.tup l=>.tup (ren ρ l)
 |.cons h t=>.cons (ren ρ h) (ren ρ t)
 |.fn f c=>.fn f (ren ρ c)
 |.yld k=>.yld (ρ k)
 |.whn g u=>.whn g (ren ρ u)
 |x=>x
theorem R_ren {Z:Nat→Prop} {w:World} {ρ:Nat→Nat} {ν:Nat→Value} :
  ∀ {av:AV} {m:Bool} {cs:List Value},R Z w (ren ρ av) ν m cs↔R Z w av (fun k=>ν (ρ k)) m cs:=by
 intro av
 induction av with
 |agg l ih=>intro m cs;cases m<;>simp only [ren,R,ih]
 |tup l ih=>intro m cs;simp only [ren,R,ih]
 |cons h t ih1 ih2=>intro m cs;simp only [ren,R,ih1,ih2]
 |fn f c ih=>intro m cs;simp only [ren,R,ih]
 |whn g u ih=>intro m cs;simp only [ren,R,ih]
 |_=>intro m cs;exact Iff.rfl
open Go
inductive Blk where
 |ints (xs:List Int)
 |bools (xs:List Bool)
 |avs (sz n:Nat) (f:Nat→AV)
 |box (u:AV)
 |rowsR (xss:List (List Int))
 |rows (xss:List (List Int))
 |rowsH (xss:List (List Int)) (i k:Nat)
 |mp (es:List (Int × Int × Nat)) (c:Nat)
 |dfr
 |sem (ks:List Nat) (A:List Value→(Nat→Prop)→World→(Nat→Prop)→Prop)
def row (w:World) (x:Value) (sz n:Nat) (g:Nat→List Value→Prop) (F:Nat→Prop):Prop :=
 (x=.slice none 0 0∧n=0∧∀ y,¬ F y) ∨
 ∃ b o cap cells T,x=.slice (some ⟨b,o,none⟩) n cap∧n≤cap∧n≤lim∧w.heap[b]? = some (.cells cells T (0,0))∧o+cap * sz≤cells.size∧(∀ y,F y↔y=b) ∧
  ∀ j,j < n→∃ es,g j es∧es.length=sz∧∀ (i:Nat) c,es[i]? = some c→cells[o+(j * sz+i)]? = some c
def Zm8 (w:World) (ys:Nat→Value) (G:Nat→Nat→Prop) (F0:Nat→Prop) (xss:List (List Int)) (c:Nat→Prop):Prop :=
 ∀ j,j < xss.length→c j→row w (ys j) 1 (xss.getD j []).length (Zdp (xss.getD j [])) (G j)∧(ys j).oneCell'=true∧(∀ y,G j y→¬ F0 y)∧∀ i,i < xss.length→c i→i≠j→∀ y,G j y→¬ G i y
def ent (e:Int × Int × Nat):MapEntry:=⟨.int .i64 e.1,.int .i64 e.2.1,e.2.2⟩
def Zgi (bs:List Nat):Value:=.func (.func 0) #[] (bs.map fun b=>Value.map (some b)).toArray
def Zk5 : Value→List Nat
 |.func _ _ cs=>cs.toList.filterMap fun v=>match v with | .map (some r)=>some r|_=>none
 |_=>[]
theorem marksAt_V {bs:List Nat}:Zk5 (Zgi bs)=bs:=by
 unfold Zk5 Zgi
 dsimp only
 rw [List.filterMap_map]
 exact List.filterMap_some
def sat (Z:Nat→Prop) (w:World) (ν:Nat→Value) (x:Value) (F:Nat→Prop):Blk→Prop
 |.ints xs=>row w x 1 xs.length (Zdp xs) F
 |.bools xs=>row w x 1 xs.length (Zd0 xs) F
 |.avs sz n f=>row w x sz n (fun j es=>R Z w (f j) ν false es) F
 |.box u=>∃ b cells T,x=.pointer (some ⟨b,0,none⟩)∧w.heap[b]? = some (.cells cells T (0,0))∧R Z w u ν false cells.toList∧∀ y,F y↔y=b
 |.rowsR xss=>row w x 1 xss.length (fun j es=>R Z w (.roI (xss.getD j [])) ν false es) F
 |.rows xss=>∃ (ys:Nat→Value) (G:Nat→Nat→Prop) (F0:Nat→Prop),row w x 1 xss.length (fun j es=>es=[ys j]) F0∧Zm8 w ys G F0 xss (fun _=>True)∧(∀ y,F y↔F0 y∨∃ j,j < xss.length∧G j y)
 |.rowsH xss i k=>∃ (ys:Nat→Value) (G:Nat→Nat→Prop) (F0:Nat→Prop),row w x 1 xss.length (fun j es=>es=[ys j]) F0∧Zm8 w ys G F0 xss (fun j=>j≠i)∧ys i=ν k∧(∀ y,F y↔F0 y∨∃ j,j < xss.length∧j≠i∧G j y)
 |.mp es c=>∃ b arr,x=.map (some b)∧w.heap[b]? = some (.map arr c)∧arr.toList=es.map ent∧∀ y,F y↔y=b
 |.dfr=>∃ bs:List Nat,x=Zgi bs∧(∀ b,b∈bs→w.heap[b]? = some (.deferred (some [])))∧bs.Nodup∧∀ y,F y↔y∈bs
 |.sem ks A=>∀ (Z':Nat→Prop) (w':World),(∀ y,Z y→Z' y)→(∀ y,Z y∨F y→w'.heap[y]? = w.heap[y]?)→A (ks.map ν) Z' w' F
def menB (μ:Nat→Bool):Blk→Prop
 |.avs _ n f=>∀ j,j < n→men μ (f j)=true
 |.box u=>men μ u=true
 |.rowsH _ _ k=>μ k=true
 |.sem ks _=>∀ k,k∈ks→μ k=true
 |_=>True
def renB (ρ:Nat→Nat):Blk→Blk
 |.avs sz n f=>.avs sz n (fun j=>ren ρ (f j))
 |.box u=>.box (ren ρ u)
 |.rowsH xss i k=>.rowsH xss i (ρ k)
 |.sem ks A=>.sem (ks.map ρ) A
 |b=>b
theorem Za3 {w w':World} {x:Value} {sz n:Nat} {g g':Nat→List Value→Prop} {F:Nat→Prop} (hw:∀ b,F b→w'.heap[b]? = w.heap[b]?) (hg:∀ j es,j < n→g j es→g' j es)
  (h:row w x sz n g F):row w' x sz n g' F:=by
 rcases h with h|⟨b,o,cap,cells,T,hx,h1,h2,h3,h4,h5,h6⟩
 ·exact .inl h
 ·refine .inr ⟨b,o,cap,cells,T,hx,h1,h2,(hw b ((h5 b).2 rfl)).trans h3,h4,h5,fun j hj=>?_⟩
  obtain ⟨es,r,hl,hc⟩:=h6 j hj
  exact ⟨es,hg j es hj r,hl,hc⟩
theorem rowsAt_mono {w w':World} {ys:Nat→Value} {G:Nat→Nat→Prop} {F0:Nat→Prop} {xss:List (List Int)} {c:Nat→Prop} (hw:∀ j,j < xss.length→c j→∀ b,G j b→w'.heap[b]? = w.heap[b]?)
  (h:Zm8 w ys G F0 xss c):Zm8 w' ys G F0 xss c:=fun j hl hc=>by
 obtain ⟨r,d⟩:=h j hl hc
 exact ⟨Za3 (hw j hl hc) (fun _ _ _ h=>h) r,d⟩
theorem Zbl {Z Z':Nat→Prop} {w w':World} {ν:Nat→Value} {x:Value} {F:Nat→Prop} {B:Blk} (hZ:∀ b,Z b→Z' b) (hz:∀ b,Z b→w'.heap[b]? = w.heap[b]?)
  (hw:∀ b,F b→w'.heap[b]? = w.heap[b]?) (h:sat Z w ν x F B):sat Z' w' ν x F B:=by
 cases B with
 |ints xs=>exact Za3 hw (fun _ _ _ h=>h) h
 |bools xs=>exact Za3 hw (fun _ _ _ h=>h) h
 |avs sz n f=>exact Za3 hw (fun _ _ _ h=>Zbc hZ hz h) h
 |box u =>
  obtain ⟨b,cells,T,hx,hb,r,hF⟩:=h
  exact ⟨b,cells,T,hx,(hw b ((hF b).2 rfl)).trans hb,Zbc hZ hz r,hF⟩
 |rowsR xss=>exact Za3 hw (fun _ _ _ h=>Zbc hZ hz h) h
 |rows xss =>
  obtain ⟨ys,G,F0,h0,hj,hF⟩:=h
  exact ⟨ys,G,F0,Za3 (fun b hb=>hw b ((hF b).2 (.inl hb))) (fun _ _ _ h=>h) h0,rowsAt_mono (fun j hl _ b hb=>hw b ((hF b).2 (.inr ⟨j,hl,hb⟩))) hj,hF⟩
 |rowsH xss i k =>
  obtain ⟨ys,G,F0,h0,hj,hk,hF⟩:=h
  exact ⟨ys,G,F0,Za3 (fun b hb=>hw b ((hF b).2 (.inl hb))) (fun _ _ _ h=>h) h0,rowsAt_mono (fun j hl hc b hb=>hw b ((hF b).2 (.inr ⟨j,hl,hc,hb⟩))) hj,hk,hF⟩
 |mp es c=>obtain ⟨b,arr,hx,hb,he,hF⟩:=h;exact ⟨b,arr,hx,(hw b ((hF b).2 rfl)).trans hb,he,hF⟩
 |dfr=>obtain ⟨bs,hx,hb,hn,hF⟩:=h;exact ⟨bs,hx,fun b hm=>(hw b ((hF b).2 hm)).trans (hb b hm),hn,hF⟩
 |sem ks A =>
  exact fun Z2 w2 h1 h2=>h Z2 w2 (fun y hy=>h1 y (hZ y hy)) (fun y hy=>by
   rcases hy with hy|hy
   ·exact (h2 y (.inl (hZ y hy))).trans (hz y hy)
   ·exact (h2 y (.inr hy)).trans (hw y hy))
theorem getD_mem_or {α:Type} (xs:List α) (j:Nat) (d:α) (h:j < xs.length):xs.getD j d∈xs:=by
 simp [List.getD_eq_getElem?_getD,List.getElem?_eq_getElem h]
theorem Zet {Z:Nat→Prop} {w:World} {μ:Nat→Bool} {ν ν':Nat→Value} {x:Value} {F:Nat→Prop} {B:Blk} (hν:∀ k,μ k=true→ν' k=ν k) (hm:menB μ B) (h:sat Z w ν x F B):sat Z w ν' x F B:=by
 cases B with
 |avs sz n f=>exact Za3 (fun _ _=>rfl) (fun j es hj h=>R_nu hν (hm j hj) h) h
 |rowsH xss i k=>obtain ⟨ys,G,F0,h0,hj,hk,hF⟩:=h;exact ⟨ys,G,F0,h0,hj,by rw [hν k hm];exact hk,hF⟩
 |box u=>obtain ⟨b,cells,T,hx,hb,r,hF⟩:=h;exact ⟨b,cells,T,hx,hb,R_nu hν hm r,hF⟩
 |sem ks A =>
  intro Z' w' h1 h2
  rw [List.map_congr_left (fun k hk=>hν k (hm k hk))]
  exact h Z' w' h1 h2
 |_=>exact h
theorem sat_ren {Z:Nat→Prop} {w:World} {ρ:Nat→Nat} {ν:Nat→Value} {x:Value} {F:Nat→Prop} {B:Blk}:sat Z w ν x F (renB ρ B)↔sat Z w (fun k=>ν (ρ k)) x F B:=by
 cases B with
 |avs sz n f=>simp only [renB,sat,R_ren]
 |box u=>simp only [renB,sat,R_ren]
 |sem ks A=>simp only [renB,sat,List.map_map];exact Iff.rfl
 |_=>exact Iff.rfl
theorem Zdo {μ μ':Nat→Bool} (hle:∀ k,μ k=true→μ' k=true) {B:Blk} (h:menB μ B):menB μ' B:=by
 cases B with
 |avs sz n f=>exact fun u hu=>Zdt hle (h u hu)
 |rowsH xss i k=>exact hle k h
 |box u=>exact Zdt hle h
 |sem ks A=>exact fun k hk=>hle k (h k hk)
 |_=>exact trivial
abbrev Env := Nat→AV
abbrev Rs := Nat→Option Blk
def GoodRs (K Z:Nat→Prop) (w:World) (ν:Nat→Value) (μ:Nat→Bool) (rs:Rs):Prop :=
 ∃ Ft:Nat→Nat→Prop,∀ k b,rs k=some b→μ k=true∧menB μ b∧sat Z w ν (ν k) (Ft k) b∧(∀ x,Ft k x→¬ K x∧x < w.heap.size) ∧
  ∀ k' b',k≠k'→rs k'=some b'→∀ x,Ft k x→¬ Ft k' x
structure St where
 mu:Nat→Bool
 env:Env
 rs:Rs
 ms:List Nat
theorem fmC {α β:Type} {f g:α→List β}:∀ {l:List α},(∀ k,k∈l→f k=g k)→l.flatMap f=l.flatMap g
 |[],_=>rfl
 |a :: l,h=>by rw [List.flatMap_cons,List.flatMap_cons,h a List.mem_cons_self,fmC fun k hk=>h k (List.mem_cons_of_mem _ hk)]
def Ze5 (v:Value):List Deferred:=match v with
 |.func (.func (n+1)) _ cs=>[{ target:=.fn (.func (n+1)) cs,args := #[] }]
 |v=>(Zk5 v).map fun r=>{ target:=.collected r,args := #[] }
theorem Zhu {bs:List Nat}:Ze5 (Zgi bs)=bs.map fun r=>{ target:=.collected r,args := #[] }:=by
 have h:Ze5 (Zgi bs)=(Zk5 (Zgi bs)).map fun r=>{ target:=.collected r,args := #[] }:=rfl
 rw [h,marksAt_V]
structure Good (K Z:Nat→Prop) (N:Nat) (w:World) (ν:Nat→Value) (σ:St) (a:Act):Prop where
 size:a.tmps.size=N
 one:∀ k,(ν k).oneCell'=true
 env:∀ s,men σ.mu (σ.env s)=true∧R Z w (σ.env s) ν true [a.tmps.getD s undef]
 rs:GoodRs K Z w ν σ.mu σ.rs
 zk:∀ b,Z b→K b
 kl:∀ b,K b→b < w.heap.size
 ds:a.defers=σ.ms.flatMap (fun k=>Ze5 (ν k))
 ml:∀ k,k∈σ.ms→σ.mu k=true
structure Ext (K:Nat→Prop) (w w':World):Prop where
 os:w'.os=w.os
 tape:w'.tape=w.tape
 output:w'.output=w.output
 size:w.heap.size≤w'.heap.size
 block:∀ b,K b→w'.heap[b]? = w.heap[b]?
structure Step (K Z:Nat→Prop) (w:World) (Z':Nat→Prop) (w':World):Prop where
 ext:Ext K w w'
 le:∀ b,Z b→Z' b
 new:∀ b,Z' b→Z b∨¬ K b
def un (K Z:Nat→Prop):Nat→Prop:=fun b=>K b∨Z b
theorem Ext.refl (K:Nat→Prop) (w:World):Ext K w w:=⟨rfl,rfl,rfl,Nat.le_refl _,fun _ _=>rfl⟩
theorem Step.refl (K Z:Nat→Prop) (w:World):Step K Z w Z w:=⟨Ext.refl K w,fun _ h=>h,fun _ h=>.inl h⟩
theorem Step.trans {K Z:Nat→Prop} {w:World} {Z1:Nat→Prop} {w1:World} {Z2:Nat→Prop} {w2:World} (h1:Step K Z w Z1 w1) (h2:Step (un K Z1) Z1 w1 Z2 w2):Step K Z w Z2 w2 :=
 ⟨⟨h2.ext.os.trans h1.ext.os,h2.ext.tape.trans h1.ext.tape,h2.ext.output.trans h1.ext.output,Nat.le_trans h1.ext.size h2.ext.size,fun b hb=>(h2.ext.block b (.inl hb)).trans (h1.ext.block b hb)⟩,
  fun b hb=>h2.le b (h1.le b hb),fun b hb=>by
   rcases h2.new b hb with h|h
   ·exact h1.new b h
   ·exact .inr fun hk=>h (.inl hk)⟩
theorem GoodRs.mono {K K' Z Z':Nat→Prop} {w w':World} {ν:Nat→Value} {μ:Nat→Bool} {rs:Rs} (h:GoodRs K Z w ν μ rs) (hZ:∀ b,Z b→Z' b) (hz:∀ b,Z b→w'.heap[b]? = w.heap[b]?)
  (hs:w.heap.size≤w'.heap.size) (hK:∀ b,K' b→K b∨w.heap.size≤b) (hw:∀ b,¬ K b→b < w.heap.size→w'.heap[b]? = w.heap[b]?):GoodRs K' Z' w' ν μ rs:=by
 obtain ⟨Ft,h⟩:=h
 refine ⟨Ft,fun k b hk=>?_⟩
 obtain ⟨h1,h2,h3,h4,h5⟩:=h k b hk
 refine ⟨h1,h2,Zbl hZ hz (fun x hx=>hw x (h4 x hx).1 (h4 x hx).2) h3,fun x hx=>⟨fun hK'=>?_,Nat.lt_of_lt_of_le (h4 x hx).2 hs⟩,h5⟩
 rcases hK x hK' with h|h
 ·exact (h4 x hx).1 h
 ·have:=(h4 x hx).2;omega
theorem GoodRs.nu {K Z:Nat→Prop} {w:World} {ν ν':Nat→Value} {μ μ':Nat→Bool} {rs:Rs} (h:GoodRs K Z w ν μ rs) (hμ:∀ k,μ k=true→μ' k=true) (hν:∀ k,μ k=true→ν' k=ν k):GoodRs K Z w ν' μ' rs:=by
 obtain ⟨Ft,h⟩:=h
 refine ⟨Ft,fun k b hk=>?_⟩
 obtain ⟨h1,h2,h3,h4,h5⟩:=h k b hk
 exact ⟨hμ k h1,Zdo hμ h2,by rw [hν k h1];exact Zet hν h2 h3,h4,h5⟩
theorem GoodRs.sub {K Z:Nat→Prop} {w:World} {ν:Nat→Value} {μ:Nat→Bool} {rs rs':Rs} (h:GoodRs K Z w ν μ rs) (hr:∀ k b,rs' k=some b→rs k=some b):GoodRs K Z w ν μ rs':=by
 obtain ⟨Ft,h⟩:=h
 refine ⟨Ft,fun k b hk=>?_⟩
 obtain ⟨h1,h2,h3,h4,h5⟩:=h k b (hr k b hk)
 exact ⟨h1,h2,h3,h4,fun k' b' hne hk'=>h5 k' b' hne (hr k' b' hk')⟩
def FF (ro:Option Nat):Fence:={ Fence.wide with round:=ro }
section
variable (P:Program) (ro:Option Nat) (N κ:Nat)
def Post (K Z:Nat→Prop) (w:World) (ν:Nat→Value) (Q:Exit→St→Prop) (e:Exit) (a':Act) (w':World):Prop :=
 ∃ Z' ν' σ',Step K Z w Z' w'∧(∀ k,k < κ→ν' k=ν k)∧Good (un K Z') Z' N w' ν' σ' a'∧Q e σ'
def awp (c:Code) (σ:St) (Q:Exit→St→Prop):Prop :=
 ∀ n K Z ν w a,Good K Z N w ν σ a→c.wpIn (FF ro) n P (Post N κ K Z w ν Q) a w
end
theorem Zki {K Z1 Z2:Nat→Prop} (h:∀ b,Z1 b→Z2 b):un (un K Z1) Z2=un K Z2:=by
 funext b
 simp only [un,eq_iff_iff]
 exact ⟨fun hh=>hh.elim (fun h1=>h1.elim .inl fun h1=>.inr (h b h1)) .inr,fun hh=>hh.elim (fun h1=>.inl (.inl h1)) .inr⟩
theorem Post.trans {N κ:Nat} {K Z:Nat→Prop} {w:World} {ν:Nat→Value} {Q:Exit→St→Prop} {e:Exit} {a':Act} {w':World} {Z1:Nat→Prop} {w1:World} {ν1:Nat→Value} (h1:Step K Z w Z1 w1) (hν:∀ k,k < κ→ν1 k=ν k)
  (h:Post N κ (un K Z1) Z1 w1 ν1 Q e a' w'):Post N κ K Z w ν Q e a' w':=by
 obtain ⟨Z',ν',σ',hs,hk,hg,hq⟩:=h
 exact ⟨Z',ν',σ',h1.trans hs,fun k hk'=>(hk k hk').trans (hν k hk'),by rw [Zki hs.le] at hg;exact hg,hq⟩
section rules
variable {P:Program} {ro:Option Nat} {N κ:Nat} {σ:St} {Q:Exit→St→Prop}
theorem Zh6 {c:Code} {Q':Exit→St→Prop} (h:awp P ro N κ c σ Q) (hq:∀ e s,Q e s→Q' e s):awp P ro N κ c σ Q' :=
 fun n K Z ν w a hg=>wpIn_mono (h n K Z ν w a hg) fun e a' w' ⟨Z',ν',σ',h1,h2,h3,h4⟩=>⟨Z',ν',σ',h1,h2,h3,hq _ _ h4⟩
theorem Zbt {K Z:Nat→Prop} (h:∀ b,Z b→K b):un K Z=K:=by
 funext b
 simp only [un,eq_iff_iff]
 exact ⟨fun hh=>hh.elim id (h b),.inl⟩
theorem Zc2 {K Z:Nat→Prop} {w:World} {ν:Nat→Value} {a:Act} {e:Exit} (hg:Good K Z N w ν σ a) (h:Q e σ):Post N κ K Z w ν Q e a w :=
 ⟨Z,ν,σ,Step.refl K Z w,fun _ _=>rfl,by rw [Zbt hg.zk];exact hg,h⟩
theorem Zja (h:Q .normal σ):awp P ro N κ .skip σ Q:=fun n K Z ν w a hg=>wpIn_skip (Zc2 hg h)
theorem awp_label {l:Nat} (h:Q .normal σ):awp P ro N κ (.label l) σ Q:=fun n K Z ν w a hg=>wpIn_label (Zc2 hg h)
theorem awp_exit {id:Nat} (h:Q (.exit id) σ):awp P ro N κ (.exit id) σ Q:=fun n K Z ν w a hg=>wpIn_exit (Zc2 hg h)
theorem awp_ret (h:Q .ret σ):awp P ro N κ .ret σ Q:=fun n K Z ν w a hg=>wpIn_ret (Zc2 hg h)
def Zfe (next:St→Prop) (Q:Exit→St→Prop):Exit→St→Prop
 |.normal,s=>next s
 |e,s=>Q e s
theorem Zea {x y:Code} (h:awp P ro N κ x σ (Zfe (fun s=>awp P ro N κ y s Q) Q)):awp P ro N κ (.seq x y) σ Q:=by
 intro n K Z ν w a hg
 refine wpIn_seq (wpIn_mono (h n K Z ν w a hg) ?_)
 rintro e a' w' ⟨Z',ν',σ',h1,h2,h3,h4⟩
 cases e with
 |normal=>exact wpIn_mono (h4 n _ _ _ _ _ h3) fun e2 a2 w2 hp=>hp.trans h1 h2
 |_=>exact ⟨Z',ν',σ',h1,h2,h3,h4⟩
def Zjy (id:Nat) (Q:Exit→St→Prop):Exit→St→Prop
 |.exit id',s=>if id'=id then Q .normal s else Q (.exit id') s
 |e,s=>Q e s
theorem Zj3 {id:Nat} {c:Code} (h:awp P ro N κ c σ (Zjy id Q)):awp P ro N κ (.block id c) σ Q:=by
 intro n K Z ν w a hg
 refine wpIn_block (wpIn_mono (h n K Z ν w a hg) ?_)
 rintro e a' w' ⟨Z',ν',σ',h1,h2,h3,h4⟩
 cases e with
 |exit id' =>
  show (if id'=id then _ else _)
  simp only [Zjy] at h4
  split
  ·rw [if_pos ‹_›] at h4;exact ⟨Z',ν',σ',h1,h2,h3,h4⟩
  ·rw [if_neg ‹_›] at h4;exact ⟨Z',ν',σ',h1,h2,h3,h4⟩
 |_=>exact ⟨Z',ν',σ',h1,h2,h3,h4⟩
def opv (env:Env):Operand→AV
 |.tmp t=>env t
 |.const v=>match v with | .int k n=>.int k n | .bool b=>.bool b|v=>.cst v
 |.func f=>.fn f .nil
 |.global g=>.cst (.pointer (some ⟨g,0,none⟩))
theorem Zih {K Z:Nat→Prop} {w:World} {ν:Nat→Value} {a:Act} (hg:Good K Z N w ν σ a) (x:Operand):R Z w (opv σ.env x) ν true [a.eval x]:=by
 cases x with
 |tmp t=>exact (hg.env t).2
 |const v=>cases v<;>exact rfl
 |func f=>exact ⟨[],rfl,rfl⟩
 |global g=>exact rfl
theorem Zhb {K Z:Nat→Prop} {w:World} {ν:Nat→Value} {a:Act} (hg:Good K Z N w ν σ a) (x:Operand):men σ.mu (opv σ.env x)=true:=by
 cases x with
 |tmp t=>exact (hg.env t).1
 |const v=>cases v<;>exact rfl
 |func f=>rfl
 |global g=>rfl
theorem awp_cond {c:Operand} {x y:Code} {b:Bool} (hc:opv σ.env c=.bool b) (ht:b=true→awp P ro N κ x σ Q) (hf:b=false→awp P ro N κ y σ Q):awp P ro N κ (.cond c x y) σ Q:=by
 intro n K Z ν w a hg
 have hr:=Zih hg c
 rw [hc] at hr
 have hv:a.eval c=.bool b:=by simpa [R] using hr
 exact wpIn_cond_split hv (fun h=>ht h n K Z ν w a hg) (fun h=>hf h n K Z ν w a hg)
structure Le (κ:Nat) (σ:St) (ρ:Nat→Nat) (σ':St):Prop where
 env:∀ s,σ'.env s=.any∨(men σ'.mu (σ'.env s)=true∧ren ρ (σ'.env s)=σ.env s)
 rs:∀ k b,σ'.rs k=some b→σ'.mu k=true∧menB σ'.mu b∧σ.rs (ρ k)=some (renB ρ b)
 inj:∀ k k' b b',σ'.rs k=some b→σ'.rs k'=some b'→ρ k=ρ k'→k=k'
 ms:σ'.ms.map ρ=σ.ms
 ml:∀ k,k∈σ'.ms→σ'.mu k=true
 id:∀ k,k < κ→ρ k=k
theorem Good.le {K Z:Nat→Prop} {w:World} {ν:Nat→Value} {a:Act} {ρ:Nat→Nat} {σ':St} (hg:Good K Z N w ν σ a) (h:Le κ σ ρ σ'):Good K Z N w (fun k=>ν (ρ k)) σ' a:=by
 refine ⟨hg.size,fun k=>hg.one _,fun s=>?_,?_,hg.zk,hg.kl,?_,h.ml⟩
 ·rcases h.env s with he|⟨hm,he⟩
  ·rw [he];exact ⟨rfl,_,rfl⟩
  ·refine ⟨hm,R_ren.1 ?_⟩
   rw [he];exact (hg.env s).2
 ·obtain ⟨Ft,hF⟩:=hg.rs
  refine ⟨fun k=>Ft (ρ k),fun k b hk=>?_⟩
  obtain ⟨h1,h2,h3⟩:=h.rs k b hk
  obtain ⟨g1,g2,g3,g4,g5⟩:=hF _ _ h3
  exact ⟨h1,h2,sat_ren.1 g3,g4,fun k' b' hne hk'=>g5 _ _ (fun e=>hne (h.inj k k' b b' hk hk' e)) (h.rs k' b' hk').2.2⟩
 ·rw [hg.ds,←h.ms,List.flatMap_map]
theorem awp_le {c:Code} {ρ:Nat→Nat} {σ':St} (hle:Le κ σ ρ σ') (h:awp P ro N κ c σ' Q):awp P ro N κ c σ Q:=by
 intro n K Z ν w a hg
 refine wpIn_mono (h n K Z _ w a (hg.le hle)) ?_
 rintro e a' w' ⟨Z',ν',s',h1,h2,h3,h4⟩
 exact ⟨Z',ν',s',h1,fun k hk=>by rw [h2 k hk];show ν (ρ k)=ν k;rw [hle.id k hk],h3,h4⟩
theorem awp_loop {c:Code} {τ:Type} (I:τ→Prop) (S:τ→St) (μ:τ→Nat) (t0:τ) (ρ0:Nat→Nat) (hle:Le κ σ ρ0 (S t0)) (h0:I t0)
  (round:∀ t,I t→awp P ro N κ c (S t) (Zfe (fun s=>∃ t' ρ,Le κ s ρ (S t')∧I t'∧μ t' < μ t) Q)):awp P ro N κ (.loop c) σ Q:=by
 refine awp_le hle ?_
 clear hle
 intro n K Z ν w a hg
 let inv:Act→World→Nat→Prop:=fun a' w' m=>∃ t Z' ν',Step K Z w Z' w'∧(∀ k,k < κ→ν' k=ν k)∧Good (un K Z') Z' N w' ν' (S t) a'∧I t∧μ t=m
 classical
 let msr:Act→World→Nat:=fun a' w'=>if h:∃ m,inv a' w' m∧∀ m',inv a' w' m'→m≤m' then Classical.choose h else 0
 have hmin:∀ a' w' m,inv a' w' m→inv a' w' (msr a' w')∧msr a' w'≤m:=by
  intro a' w' m hm
  have hex:∃ m,inv a' w' m∧∀ m',inv a' w' m'→m≤m':=by
   have key:∀ j m,m≤j→inv a' w' m→∃ m,inv a' w' m∧∀ m',inv a' w' m'→m≤m':=by
    intro j
    induction j with
    |zero=>intro m hj hm;exact ⟨m,hm,fun m' _=>by omega⟩
    |succ j ih =>
     intro m hj hm
     by_cases hs:∃ m',inv a' w' m'∧m' < m
     ·obtain ⟨m',h1,h2⟩:=hs
      exact ih m' (by omega) h1
     ·exact ⟨m,hm,fun m' h'=>Nat.le_of_not_lt fun hlt=>hs ⟨m',h',hlt⟩⟩
   exact key m m (Nat.le_refl _) hm
  have hd:msr a' w'=Classical.choose hex:=by simp only [msr];rw [dif_pos hex]
  have hc:=Classical.choose_spec hex
  rw [hd]
  exact ⟨hc.1,hc.2 m hm⟩
 refine wpIn_loop (fun a' w'=>∃ m,inv a' w' m) msr ⟨μ t0,t0,Z,ν,Step.refl K Z w,fun _ _=>rfl,by rw [Zbt hg.zk];exact hg,h0,rfl⟩ ?_
 rintro a1 w1 ⟨m,hm⟩
 obtain ⟨⟨t,Z1,ν1,s1,k1,g1,i1,e1⟩,_⟩:=hmin a1 w1 m hm
 refine wpIn_mono (round t i1 n _ _ _ _ _ g1) ?_
 rintro e a2 w2 ⟨Z2,ν2,σ2,s2,k2,g2,q2⟩
 cases e with
 |normal =>
  obtain ⟨t',ρ,hle,hi,hlt⟩:=q2
  have hinv:inv a2 w2 (μ t'):=⟨t',Z2,fun k=>ν2 (ρ k),s1.trans s2,fun k hk=>by show ν2 (ρ k)=ν k;rw [hle.id k hk,k2 k hk,k1 k hk],by
   rw [Zki s2.le] at g2;exact g2.le hle,hi,rfl⟩
  refine ⟨⟨_,hinv⟩,?_⟩
  have:=(hmin a2 w2 _ hinv).2
  omega
 |_=>exact Post.trans s1 k1 ⟨Z2,ν2,σ2,s2,k2,g2,q2⟩
end rules
open Go
def put (e:Env) (d:Nat) (v:AV):Env:=fun s=>match Nat.beq s d with|true=>v|false=>e s
def putO (e:Env) (d:Option Nat) (v:AV):Env:=match d with|some d=>put e d v|none=>e
def lko (l:List (Nat × Option Blk)) (k:Nat):Option (Option Blk) :=
 match l with
 |[]=>none
 |(k',b) :: t=>match Nat.beq k k' with|true=>some b|false=>lko t k
def updL (rs:Rs) (wr:List (Nat × Option Blk)):Rs:=fun k=>match lko wr k with|some b=>b|none=>rs k
def addK (μ:Nat→Bool) (kn:Option Nat):Nat→Bool:=match kn with|some k=>fun x=>μ x || Nat.beq x k|none=>μ
structure Item where
 dst:Option Nat
 ins:List (Nat × AV)
 val:AV
 rd:List (Nat × Blk)
 wr:List (Nat × Option Blk)
 kn:Option Nat
structure Fits (N:Nat) (it:Item) (σ:St):Prop where
 ins:∀ p,p∈it.ins→σ.env p.1=p.2
 rd:∀ p,p∈it.rd→σ.rs p.1=some p.2
 kn:∀ k,it.kn=some k→σ.mu k=false
 dst:∀ d,it.dst=some d→d < N
def Item.app (it:Item) (σ:St):St:={ mu:=addK σ.mu it.kn,env:=putO σ.env it.dst it.val,rs:=updL σ.rs it.wr,ms:=σ.ms }
def Zdh (N:Nat) (its:Nat→Item):List Nat→St→St→Prop
 |[],s,s'=>s=s'
 |i :: L,s,s'=>Fits N (its i) s∧Zdh N its L ((its i).app s) s'
def Zlu (P:Program) (ro:Option Nat) (N:Nat) (ops:Array Oper) (o:Oper) (it:Item):Prop :=
 ∀ n K Z ν w a σ,Good K Z N w ν σ a→Fits N it σ→∀ (next:Act→World→Prop) (Q:Exit→Act→World→Prop),
  (∀ Z' ν' w' a',Step K Z w Z' w'→(∀ k,σ.mu k=true→ν' k=ν k)→Good (un K Z') Z' N w' ν' (it.app σ) a'→next a' w') →
  (if Region.wanted o (yielded ops a.tmps) then o.wpIn (FF ro) n P a w next Q else (∀ f,o.about P w a.eval=some f→(FF ro).fn f)∧next (a.put o.dst undef) w)
section
variable {P:Program} {ro:Option Nat} {N κ:Nat} {ops:Array Oper} {its:Nat→Item}
def Zno (κ:Nat) (σ:St):Prop:=∀ k,k < κ→σ.mu k=true
theorem Zgj {it:Item} {σ:St} (h:Zno κ σ):Zno κ (it.app σ):=by
 intro k hk
 show addK σ.mu it.kn k=true
 cases it.kn with
 |none=>exact h k hk
 |some j=>simp [addK,h k hk]
theorem Zko {Q:Exit→St→Prop} {σ':St} (hq:Q .normal σ'):∀ (L:List Nat) (σ:St),(∀ i,i∈L→∃ o,ops[i]? = some o∧Zlu P ro N ops o (its i))→Zno κ σ→Zdh N its L σ σ' →
  ∀ n K Z ν w a,Good K Z N w ν σ a→wpOpsIn (FF ro) n P ops (Post N κ K Z w ν Q) L a w:=by
 intro L
 induction L with
 |nil =>
  intro σ _ _ hr n K Z ν w a hg
  obtain rfl:σ=σ':=hr
  exact Zc2 hg hq
 |cons i L ih =>
  intro σ hop hh hr n K Z ν w a hg
  obtain ⟨o,ho,hrun⟩:=hop i (List.mem_cons_self)
  obtain ⟨hf,hr⟩:=hr
  rw [wpOpsIn_cons]
  unfold wpOpIn
  simp only [ho]
  refine hrun n K Z ν w a σ hg hf _ _ ?_
  intro Z1 ν1 w1 a1 hs hν hg1
  have:=ih ((its i).app σ) (fun j hj=>hop j (List.mem_cons_of_mem _ hj)) (Zgj hh) hr n _ _ ν1 w1 a1 hg1
  exact wpOpsIn_mono' this fun e a' w' hp=>hp.trans hs (fun k hk=>hν k (hh k hk))
where
 wpOpsIn_mono' {F:Fence} {n:Nat} {P:Program} {ops:Array Oper} {Q Q':Exit→Act→World→Prop} {L:List Nat} {a:Act} {w:World} (h:wpOpsIn F n P ops Q L a w) (hq:∀ e a w,Q e a w→Q' e a w):wpOpsIn F n P ops Q' L a w:=by
  induction L generalizing a w with
  |nil=>exact hq _ _ _ h
  |cons i L ih =>
   rw [wpOpsIn_cons] at h ⊢
   unfold wpOpIn at h ⊢
   cases ho:ops[i]? with
   |none=>simp only [ho] at h ⊢;exact ih h
   |some o =>
    simp only [ho] at h ⊢
    split
    ·rename_i hw
     simp only [hw,if_true] at h
     refine ⟨h.1,?_⟩
     have h2:=h.2
     generalize (o.semAt F.round a.eval).run P w=r at *
     cases r with
     |ok x w' =>
      cases x<;>simp only [Oper.uponIn] at h2 ⊢ <;>
       first
        |exact ih h2
        |exact ⟨h2.1,CallsIn.mono h2.2 (fun e w'' he=>by cases e<;>first|exact ih he|exact hq _ _ _ he|(obtain ⟨a0,w0,hl⟩:=he;exact ⟨a0,w0,hq _ _ _ hl⟩))⟩
        |exact ⟨h2.1,RowsIn.mono h2.2 (fun _ _ he=>ih he)⟩
        |exact ⟨h2.1,RoundIn.mono h2.2 (fun e w'' he=>by cases e<;>first|exact ih he|exact hq _ _ _ he|(obtain ⟨a0,w0,hl⟩:=he;exact ⟨a0,w0,hq _ _ _ hl⟩))⟩
     |halt x w'=>cases x<;>simp only [Oper.uponIn] at h2 ⊢ <;> first|exact hq _ _ _ h2|exact h2
    ·rename_i hw
     rw [if_neg hw] at h
     exact ⟨h.1,ih h.2⟩
/-! ### Orders -/

structure Apart (a b:Item):Prop where
 d:∀ d d',a.dst=some d→b.dst=some d'→d≠d'
 da:∀ d,a.dst=some d→∀ p,p∈b.ins→p.1≠d
 db:∀ d,b.dst=some d→∀ p,p∈a.ins→p.1≠d
 wa:∀ p,p∈a.wr→(∀ q,q∈b.rd→q.1≠p.1)∧(∀ q,q∈b.wr→q.1≠p.1)
 wb:∀ p,p∈b.wr→∀ q,q∈a.rd→q.1≠p.1
 kn:∀ k k',a.kn=some k→b.kn=some k'→k≠k'
theorem Zgu {l:List (Nat × Option Blk)} {k:Nat} (h:∀ p,p∈l→p.1≠k):lko l k=none:=by
 induction l with
 |nil=>rfl
 |cons p t ih =>
  obtain ⟨k',b⟩:=p
  have hne:Nat.beq k k'=false:=by
   have:=h (k',b) List.mem_cons_self
   cases hb:Nat.beq k k' with
   |false=>rfl
   |true=>exact absurd (Nat.eq_of_beq_eq_true hb).symm this
  simp only [lko,hne]
  exact ih fun p hp=>h p (List.mem_cons_of_mem _ hp)
theorem Zjn {e:Env} {d s:Nat} {v:AV} (h:s≠d):put e d v s=e s:=by
 have hne:Nat.beq s d=false:=by
  cases hb:Nat.beq s d with
  |false=>rfl
  |true=>exact absurd (Nat.eq_of_beq_eq_true hb) h
 simp [put,hne]
theorem Zlz {e:Env} {d:Nat} {v:AV}:put e d v d=v:=by simp [put,Nat.beq_refl]
theorem putO_ne {e:Env} {d:Option Nat} {s:Nat} {v:AV} (h:∀ x,d=some x→s≠x):putO e d v s=e s:=by
 cases d with
 |none=>rfl
 |some d=>exact Zjn (h d rfl)
theorem put_comm {e:Env} {d d':Nat} {v v':AV} (h:d≠d'):put (put e d v) d' v'=put (put e d' v') d v:=by
 funext s
 by_cases h1:s=d'
 ·subst h1;rw [Zlz,Zjn (Ne.symm h),Zlz]
 ·rw [Zjn h1]
  by_cases h2:s=d
  ·subst h2;rw [Zlz,Zlz]
  ·rw [Zjn h2,Zjn h2,Zjn h1]
theorem updL_comm {rs:Rs} {a b:List (Nat × Option Blk)} (h:∀ p,p∈a→∀ q,q∈b→q.1≠p.1):updL (updL rs a) b=updL (updL rs b) a:=by
 funext k
 simp only [updL]
 cases ha:lko a k with
 |none=>cases hb:lko b k<;>rfl
 |some x =>
  have:lko b k=none:=by
   have hmem:∃ p,p∈a∧p.1=k:=by
    induction a with
    |nil=>cases ha
    |cons p t ih =>
     obtain ⟨k',y⟩:=p
     by_cases hk:k'=k
     ·exact ⟨_,List.mem_cons_self,hk⟩
     ·have hne:Nat.beq k k'=false:=by
       cases hb:Nat.beq k k' with
       |false=>rfl
       |true=>exact absurd (Nat.eq_of_beq_eq_true hb).symm hk
      simp only [lko,hne] at ha
      obtain ⟨p,hp,e⟩:=ih (fun p hp=>h p (List.mem_cons_of_mem _ hp)) ha
      exact ⟨p,List.mem_cons_of_mem _ hp,e⟩
   obtain ⟨p,hp,e⟩:=hmem
   exact Zgu fun q hq=>e▸h p hp q hq
  simp [this]
theorem addK_comm {μ:Nat→Bool} {a b:Option Nat}:addK (addK μ a) b=addK (addK μ b) a:=by
 cases a with
 |none=>cases b<;>rfl
 |some x=>cases b with
  |none=>rfl
  |some y=>funext k;show (μ k || Nat.beq k x || Nat.beq k y)=(μ k || Nat.beq k y || Nat.beq k x);cases μ k<;>cases Nat.beq k x<;>cases Nat.beq k y<;>rfl
theorem swap_items {a b:Item} {σ:St} (hi:Apart a b) (fa:Fits N a σ) (fb:Fits N b (a.app σ)):Fits N b σ∧Fits N a (b.app σ)∧b.app (a.app σ)=a.app (b.app σ):=by
 refine ⟨⟨fun p hp=>?_,fun p hp=>?_,fun k hk=>?_,fb.dst⟩,⟨fun p hp=>?_,fun p hp=>?_,fun k hk=>?_,fa.dst⟩,?_⟩
 ·rw [←fb.ins p hp];exact (putO_ne fun x hx=>hi.da x hx p hp).symm
 ·have:=fb.rd p hp
  rwa [show (a.app σ).rs p.1=σ.rs p.1 from by
   show updL σ.rs a.wr p.1=_
   simp only [updL]
   rw [Zgu fun q hq=>Ne.symm ((hi.wa q hq).1 p hp)]] at this
 ·have:=fb.kn k hk
  have h:addK σ.mu a.kn k=false:=this
  cases hka:a.kn with
  |none=>rw [hka] at h;exact h
  |some j=>rw [hka] at h;simp [addK] at h;exact h.1
 ·rw [←fa.ins p hp];exact putO_ne fun x hx=>hi.db x hx p hp
 ·rw [←fa.rd p hp]
  show updL σ.rs b.wr p.1=_
  simp only [updL]
  rw [Zgu fun q hq=>Ne.symm (hi.wb q hq p hp)]
 ·have h1:=fa.kn k hk
  show addK σ.mu b.kn k=false
  cases hkb:b.kn with
  |none=>exact h1
  |some j =>
   have hne:Nat.beq k j=false:=by
    cases hb:Nat.beq k j with
    |false=>rfl
    |true=>exact absurd (Nat.eq_of_beq_eq_true hb) (hi.kn k j hk hkb)
   simp [addK,h1,hne]
 ·show St.mk _ _ _ _=St.mk _ _ _ _
  have e1:addK (addK σ.mu a.kn) b.kn=addK (addK σ.mu b.kn) a.kn:=addK_comm
  have e2:putO (putO σ.env a.dst a.val) b.dst b.val=putO (putO σ.env b.dst b.val) a.dst a.val:=by
   cases had:a.dst with
   |none=>rfl
   |some d=>cases hbd:b.dst with
    |none=>rfl
    |some d'=>exact put_comm (hi.d d d' had hbd)
  have e3:updL (updL σ.rs a.wr) b.wr=updL (updL σ.rs b.wr) a.wr:=updL_comm fun p hp q hq=>(hi.wa p hp).2 q hq
  simp only [Item.app,e1,e2,e3]
theorem Zgs {i:Nat} {B:List Nat}:∀ (A:List Nat) (σ σ':St),(∀ j,j∈A→Apart (its j) (its i))→Zdh N its (A++i :: B) σ σ'→Fits N (its i) σ∧Zdh N its (A++B) ((its i).app σ) σ':=by
 intro A
 induction A with
 |nil=>intro σ σ' _ h;exact h
 |cons j A ih =>
  intro σ σ' hi h
  obtain ⟨fj,h⟩:=h
  obtain ⟨f1,h1⟩:=ih _ _ (fun x hx=>hi x (List.mem_cons_of_mem _ hx)) h
  obtain ⟨g1,g2,g3⟩:=swap_items (hi j List.mem_cons_self) fj f1
  exact ⟨g1,g2,by rw [←g3];exact h1⟩
def Zb3 (o:Oper):List Nat:=(o.after.toList.filter fun e=>Region.binds .any e).map (·.on)
def ddL : List Nat→List Nat
 |[]=>[]
 |a :: t=>bif (ddL t).any (fun b=>Nat.beq a b) then ddL t else a :: ddL t
def ancs : List Oper→List (List Nat)→List (List Nat)
 |[],acc=>acc
 |o :: t,acc=>ancs t (acc++[ddL (Zb3 o++(Zb3 o).flatMap fun p=>acc.getD p [])])
def disj (a b:List Nat):Bool:=a.all fun x=>b.all fun y => !(Nat.beq x y)
def Zke (a b:Item):Bool :=
 disj a.dst.toList b.dst.toList && disj a.dst.toList (b.ins.map (·.1)) && disj b.dst.toList (a.ins.map (·.1)) &&
 disj (a.wr.map (·.1)) (b.rd.map (·.1)) && disj (a.wr.map (·.1)) (b.wr.map (·.1)) && disj (b.wr.map (·.1)) (a.rd.map (·.1)) && disj a.kn.toList b.kn.toList
theorem Zhd {a b:List Nat} (h:disj a b=true) {x y:Nat} (hx:x∈a) (hy:y∈b):x≠y:=by
 simp only [disj,List.all_eq_true] at h
 have:=h x hx y hy
 intro e
 subst e
 simp [Nat.beq_refl] at this
theorem Zjc {a b:Item} (h:Zke a b=true):Apart a b:=by
 simp only [Zke,Bool.and_eq_true] at h
 obtain ⟨⟨⟨⟨⟨⟨h1,h2⟩,h3⟩,h4⟩,h5⟩,h6⟩,h7⟩:=h
 refine ⟨fun d d' hd hd'=>Zhd h1 (by simp [hd]) (by simp [hd']),fun d hd p hp=>Ne.symm (Zhd h2 (by simp [hd]) (List.mem_map_of_mem hp)),fun d hd p hp=>Ne.symm (Zhd h3 (by simp [hd]) (List.mem_map_of_mem hp)),
  fun p hp=>⟨fun q hq=>Ne.symm (Zhd h4 (List.mem_map_of_mem hp) (List.mem_map_of_mem hq)),fun q hq=>Ne.symm (Zhd h5 (List.mem_map_of_mem hp) (List.mem_map_of_mem hq))⟩,
  fun p hp q hq=>Ne.symm (Zhd h6 (List.mem_map_of_mem hp) (List.mem_map_of_mem hq)),fun k k' hk hk'=>Zhd h7 (by simp [hk]) (by simp [hk'])⟩
def Zby (l:List Item) (i:Nat):Item:=l.getD i ⟨none,[],.any,[],[],none⟩
def Zkd (ops:List Oper) (l:List Item):Bool :=
 let A:=ancs ops []
 (List.range ops.length).all fun i =>
  ((A.getD i []).all fun j=>match ops[i]? with|some o=>(Zb3 o).any (fun p=>Nat.beq p j || ((A.getD p []).any fun q=>Nat.beq q j)) && Nat.blt j i|none=>false) &&
  (match ops[i]? with|some o=>(Zb3 o).all fun p=>Nat.blt p i|none=>false) &&
  (List.range i).all fun j=>((A.getD i []).any fun q=>Nat.beq q j) || Zke (Zby l j) (Zby l i)
theorem run_any {Q:Exit→St→Prop} {σ':St} (l:List Item) (hc:Zkd ops.toList l=true) (hop:∀ i,i < ops.size→∃ o,ops[i]? = some o∧Zlu P ro N ops o (Zby l i)) (hq:Q .normal σ') :
  ∀ (fuel:Nat) (listed:Array Bool) (L:List Nat) (σ:St),listed.size=ops.size→L.length≤fuel→(∀ i,i∈L↔i < ops.size∧listed.getD i true=false)→L.Pairwise (· < ·) →
   (∀ i o,ops[i]? = some o→listed.getD i true=true→∀ p,p∈Zb3 o→listed.getD p true=true) →
   Zno κ σ→Zdh N (Zby l) L σ σ'→∀ n K Z ν w a,Good K Z N w ν σ a→wpAnyIn (FF ro) n P .any ops (Post N κ K Z w ν Q) fuel listed a w:=by
 have hchk:∀ i,i < ops.size→∀ o,ops[i]? = some o→(∀ j,j∈(ancs ops.toList []).getD i []→(∃ p,p∈Zb3 o∧(p=j∨j∈(ancs ops.toList []).getD p []))∧j < i)∧(∀ p,p∈Zb3 o→p < i) ∧
   ∀ j,j < i→j∈(ancs ops.toList []).getD i []∨Apart (Zby l j) (Zby l i):=by
  intro i hi o ho
  simp only [Zkd,List.all_eq_true,List.mem_range,Bool.and_eq_true,Array.length_toList] at hc
  obtain ⟨⟨h1,h2⟩,h3⟩:=hc i hi
  have ho':ops.toList[i]? = some o:=by simpa using ho
  rw [ho'] at h1 h2
  simp only [List.all_eq_true,Nat.blt_eq] at h2
  refine ⟨fun j hj=>?_,h2,fun j hj=>?_⟩
  ·have:=h1 j hj
   simp only [Bool.and_eq_true,List.any_eq_true,Bool.or_eq_true,Nat.blt_eq] at this
   obtain ⟨⟨p,hp,hpj⟩,hlt⟩:=this
   refine ⟨⟨p,hp,?_⟩,hlt⟩
   rcases hpj with h|⟨q,hq,h⟩
   ·exact .inl (Nat.eq_of_beq_eq_true h)
   ·exact .inr (Nat.eq_of_beq_eq_true h▸hq)
  ·have:=h3 j hj
   simp only [Bool.or_eq_true,List.any_eq_true] at this
   rcases this with ⟨q,hq,h⟩|h
   ·exact .inl (Nat.eq_of_beq_eq_true h▸hq)
   ·exact .inr (Zjc h)
 have Zc6:∀ (listed:Array Bool),listed.size=ops.size→(∀ i o,ops[i]? = some o→listed.getD i true=true→∀ p,p∈Zb3 o→listed.getD p true=true) →
   ∀ i,i < ops.size→∀ o,ops[i]? = some o→(∀ p,p∈Zb3 o→listed.getD p true=true)→∀ j,j∈(ancs ops.toList []).getD i []→listed.getD j true=true:=by
  intro listed hsz hcl i
  induction i using Nat.strongRecOn with
  |_ i ih =>
   intro hi o ho hp j hj
   obtain ⟨⟨p,hpm,hpj⟩,hlt⟩:=(hchk i hi o ho).1 j hj
   rcases hpj with rfl|hpj
   ·exact hp p hpm
   ·have hpi:=(hchk i hi o ho).2.1 p hpm
    have hps:p < ops.size:=by omega
    obtain ⟨o',ho',_⟩:=hop p hps
    exact ih p hpi hps o' ho' (hcl p o' ho' (hp p hpm)) j hpj
 have Zcv:∀ (listed:Array Bool) i,i∈Region.ready .any ops listed→i < ops.size∧listed.getD i true=false∧∀ o,ops[i]? = some o→∀ p,p∈Zb3 o→listed.getD p true=true:=by
  intro listed i hi
  simp only [Region.ready,List.mem_filter,List.mem_range,Bool.and_eq_true,Bool.not_eq_true'] at hi
  obtain ⟨h1,h2,h3⟩:=hi
  refine ⟨h1,h2,fun o ho p hp=>?_⟩
  rw [ho] at h3
  simp only [Option.map_some,Option.getD_some] at h3
  simp only [Zb3,List.mem_map,List.mem_filter] at hp
  obtain ⟨e,⟨he,hb⟩,rfl⟩:=hp
  have:=(Array.all_eq_true_iff_forall_mem.1 h3) e (by simpa using he)
  rw [hb] at this
  simp only [Bool.not_true,Bool.false_or] at this
  cases hg:listed[e.on]? with
  |none=>simp [Array.getD_eq_getD_getElem?,hg]
  |some x=>simp [Array.getD_eq_getD_getElem?,hg] at this ⊢;exact this
 have Zgr:∀ (listed:Array Bool) i o,ops[i]? = some o→listed.getD i true=false→(∀ p,p∈Zb3 o→p < listed.size∧listed.getD p true=true)→i∈Region.ready .any ops listed:=by
  intro listed i o ho hl hp
  have hi:i < ops.size:=(Array.getElem?_eq_some_iff.1 ho).1
  simp only [Region.ready,List.mem_filter,List.mem_range,Bool.and_eq_true,Bool.not_eq_true']
  refine ⟨hi,hl,?_⟩
  rw [ho]
  simp only [Option.map_some,Option.getD_some]
  refine Array.all_eq_true_iff_forall_mem.2 fun e he=>?_
  cases hb:Region.binds .any e with
  |false=>rfl
  |true =>
   obtain ⟨h1,h2⟩:=hp e.on (List.mem_map.2 ⟨e,List.mem_filter.2 ⟨by simpa using he,hb⟩,rfl⟩)
   simp [Array.getD_eq_getD_getElem?,Array.getElem?_eq_getElem h1] at h2 ⊢
   exact h2
 have Zd5:∀ (listed:Array Bool) i j,i < listed.size→((listed.setIfInBounds i true).getD j true=true↔(j=i∨listed.getD j true=true)):=by
  intro listed i j hi
  simp only [Array.getD_eq_getD_getElem?,Array.getElem?_setIfInBounds]
  by_cases h:i=j
  ·subst h;simp [hi]
  ·simp [h,Ne.symm h]
 intro fuel
 induction fuel with
 |zero =>
  intro listed L σ hsz hlen hL hpw hcl hh hr n K Z ν w a hg
  obtain rfl:L=[]:=List.eq_nil_of_length_eq_zero (by omega)
  obtain rfl:σ=σ':=hr
  refine ⟨?_,Zc2 hg hq⟩
  refine List.eq_nil_iff_forall_not_mem.2 fun i hi=>?_
  obtain ⟨h1,h2,_⟩:=Zcv listed i hi
  exact absurd ((hL i).2 ⟨h1,h2⟩) (by simp)
 |succ fuel ih =>
  intro listed L σ hsz hlen hL hpw hcl hh hr n K Z ν w a hg
  refine ⟨fun hnil=>?_,fun i hi=>?_⟩
  ·cases L with
   |nil=>obtain rfl:σ=σ':=hr;exact Zc2 hg hq
   |cons i L =>
    exfalso
    obtain ⟨hi,hl⟩:=(hL i).1 List.mem_cons_self
    obtain ⟨o,ho,_⟩:=hop i hi
    have:i∈Region.ready .any ops listed:=Zgr listed i o ho hl fun p hp=>by
     have hpi:=(hchk i hi o ho).2.1 p hp
     refine ⟨by omega,?_⟩
     cases hpl:listed.getD p true with
     |true=>rfl
     |false =>
      have hmem:=(hL p).2 ⟨by omega,hpl⟩
      rcases List.mem_cons.1 hmem with rfl|hmem
      ·omega
      ·have:=List.rel_of_pairwise_cons hpw hmem;omega
    rw [hnil] at this
    cases this
  ·obtain ⟨h1,h2,h3⟩:=Zcv listed i hi
   obtain ⟨o,ho,hrun⟩:=hop i h1
   have hiL:=(hL i).2 ⟨h1,h2⟩
   obtain ⟨A,B,rfl⟩:=List.append_of_mem hiL
   have hA:∀ j,j∈A→j < i:=fun j hj=>by
    rw [List.pairwise_append] at hpw
    exact hpw.2.2 j hj i List.mem_cons_self
   have hap:∀ j,j∈A→Apart (Zby l j) (Zby l i):=by
    intro j hj
    rcases (hchk i h1 o ho).2.2 j (hA j hj) with h|h
    ·have hd:=Zc6 listed hsz hcl i h1 o ho (h3 o ho) j h
     have:=((hL j).1 (List.mem_append_left _ hj)).2
     rw [hd] at this
     cases this
    ·exact h
   obtain ⟨f1,r1⟩:=Zgs A σ σ' hap hr
   unfold wpOpIn
   simp only [ho]
   refine hrun n K Z ν w a σ hg f1 _ _ ?_
   intro Z1 ν1 w1 a1 hs hν hg1
   have hi2:i < listed.size:=by omega
   have hnd:i ∉ A∧i ∉ B:=by
    have hne:(A++i :: B).Pairwise (· ≠ ·):=hpw.imp fun h=>Nat.ne_of_lt h
    rw [List.pairwise_append] at hne
    exact ⟨fun h=>hne.2.2 i h i List.mem_cons_self rfl,fun h=>List.rel_of_pairwise_cons hne.2.1 h rfl⟩
   have:=ih (listed.setIfInBounds i true) (A++B) _ (by simpa using hsz) (by simp at hlen ⊢;omega) (fun j=>?_) ?_ ?_ (Zgj hh) r1 n _ _ ν1 w1 a1 hg1
   ·exact wpAnyIn_mono' this fun e a' w' hp=>hp.trans hs (fun k hk=>hν k (hh k hk))
   ·have e:(listed.setIfInBounds i true).getD j true=false↔(j≠i∧listed.getD j true=false):=by
     have:=Zd5 listed i j hi2
     cases h:(listed.setIfInBounds i true).getD j true with
     |true =>
      simp only [h,true_iff] at this
      refine ⟨fun hh=>(by cases hh),fun hh=>?_⟩
      rcases this with e|e
      ·exact absurd e hh.1
      ·rw [e] at hh;exact absurd hh.2 (by simp)
     |false =>
      rw [h] at this
      simp only [Bool.false_eq_true,false_iff,not_or] at this
      exact ⟨fun _=>⟨this.1,by cases hx:listed.getD j true with|false=>rfl|true=>exact absurd hx this.2⟩,fun _=>rfl⟩
    rw [e]
    constructor
    ·intro hj
     have hj':j∈A++i :: B:=by
      rcases List.mem_append.1 hj with h|h
      ·exact List.mem_append_left _ h
      ·exact List.mem_append_right _ (List.mem_cons_of_mem _ h)
     obtain ⟨q1,q2⟩:=(hL j).1 hj'
     refine ⟨q1,?_,q2⟩
     rintro rfl
     rcases List.mem_append.1 hj with h|h
     ·exact hnd.1 h
     ·exact hnd.2 h
    ·rintro ⟨q1,q2,q3⟩
     have:=(hL j).2 ⟨q1,q3⟩
     rcases List.mem_append.1 this with h|h
     ·exact List.mem_append_left _ h
     ·rcases List.mem_cons.1 h with h|h
      ·exact absurd h q2
      ·exact List.mem_append_right _ h
   ·exact hpw.sublist (List.sublist_append_left A (i :: B) |>.trans (List.Sublist.refl _) |> fun _=>List.Sublist.append (List.Sublist.refl A) (List.sublist_cons_self i B))
   ·intro j oj hoj hlj p hp
    rw [Zd5 listed i p hi2]
    rcases (Zd5 listed i j hi2).1 hlj with rfl|h
    ·exact .inr (h3 oj hoj p hp)
    ·exact .inr (hcl j oj hoj h p hp)
where
 wpAnyIn_mono' {F:Fence} {n:Nat} {P:Program} {md:Region.Mode} {ops:Array Oper} {Q Q':Exit→Act→World→Prop} {fuel:Nat} {listed:Array Bool} {a:Act} {w:World} (h:wpAnyIn F n P md ops Q fuel listed a w) (hq:∀ e a w,Q e a w→Q' e a w):wpAnyIn F n P md ops Q' fuel listed a w:=by
  induction fuel generalizing listed a w with
  |zero=>exact ⟨h.1,hq _ _ _ h.2⟩
  |succ fuel ih =>
   refine ⟨fun hr=>hq _ _ _ (h.1 hr),fun i hi=>?_⟩
   have h:=h.2 i hi
   unfold wpOpIn at h ⊢
   cases ho:ops[i]? with
   |none=>simp only [ho] at h ⊢;exact ih h
   |some o =>
    simp only [ho] at h ⊢
    split
    ·rename_i hw
     simp only [hw,if_true] at h
     refine ⟨h.1,?_⟩
     have h2:=h.2
     generalize (o.semAt F.round a.eval).run P w=r at *
     cases r with
     |ok x w' =>
      cases x<;>simp only [Oper.uponIn] at h2 ⊢ <;>
       first
        |exact ih h2
        |exact ⟨h2.1,CallsIn.mono h2.2 (fun e w'' he=>by cases e<;>first|exact ih he|exact hq _ _ _ he|(obtain ⟨a0,w0,hl⟩:=he;exact ⟨a0,w0,hq _ _ _ hl⟩))⟩
        |exact ⟨h2.1,RowsIn.mono h2.2 (fun _ _ he=>ih he)⟩
        |exact ⟨h2.1,RoundIn.mono h2.2 (fun e w'' he=>by cases e<;>first|exact ih he|exact hq _ _ _ he|(obtain ⟨a0,w0,hl⟩:=he;exact ⟨a0,w0,hq _ _ _ hl⟩))⟩
     |halt x w'=>cases x<;>simp only [Oper.uponIn] at h2 ⊢ <;> first|exact hq _ _ _ h2|exact h2
    ·rename_i hw
     rw [if_neg hw] at h
     exact ⟨h.1,ih h.2⟩
end
open Go
inductive TK where
 |leaf
 |bool
 |slc (e:Nat)
 |str (fs:List (Nat × Nat × Bool))
 |map
structure TI where
 k:TK
 size:Nat
 bytes:Nat
 zero:AV
def isAg : AV→Bool
 |.agg _=>true
 |_=>false
def Zo0 : TypeDesc→Bool
 |.struct _ | .array _ _=>true
 |_=>false
def Zot (P:Program) (t:Nat):Prop:=∃ k e,P.underlying t=some (.map k e)∧P.underlying k=some (.int .i64)∧∃ inf,P.info? e=some inf∧inf.zero=some (.int .i64 0)
structure TOK (P:Program) (t:Nat) (i:TI):Prop where
 info:∃ inf,P.info? t=some inf∧inf.size=i.size∧inf.bytes=i.bytes∧∃ z,inf.zero=some z∧z.cells.size=i.size∧(isAg i.zero=false→z.cells = #[z])∧(∀ y,y∈z.cells.toList→y.oneCell'=true)∧∀ Z w ν,R Z w i.zero ν false z.cells.toList
 leaf:i.k=.leaf→∃ d,P.underlying t=some d∧Zo0 d=false
 bool:i.k=.bool→P.underlying t=some .bool
 slc:∀ e,i.k=.slc e→P.underlying t=some (.slice e)
 str:∀ fs,i.k=.str fs→∃ arr:Array Field,P.underlying t=some (.struct arr)∧arr.size=fs.length∧∀ (f o s:Nat) (g:Bool),fs[f]? = some (o,s,g)→∃ fd:Field,arr[f]? = some fd∧fd.offset=o∧0 < s∧∃ inf,P.info? fd.type=some inf∧inf.size=s
 map:i.k=.map→Zot P t
def Zdf (P:Program) (tb:Nat→Option TI):Prop:=∀ t i,tb t=some i→TOK P t i
/-! ### Lists of abstract values -/
def nthL : AV→Nat→AV
 |.cons h _,0=>h
 |.cons _ t,n+1=>nthL t n
 |_,_=>.any
def dropL : AV→Nat→AV
 |x,0=>x
 |.cons _ t,n+1=>dropL t n
 |x,_=>x
def takeL : AV→Nat→AV
 |_,0=>.nil
 |.cons h t,n+1=>.cons h (takeL t n)
 |x,_=>x
def lenL : AV→Nat
 |.cons _ t=>lenL t+1
 |_=>0
def properL : AV→Bool
 |.nil=>true
 |.cons _ t=>properL t
 |_=>false
def setL : AV→Nat→AV→AV
 |.cons _ t,0,v=>.cons v t
 |.cons h t,n+1,v=>.cons h (setL t n v)
 |x,_,_=>x
def appL : AV→AV→AV
 |.cons h t,x=>.cons h (appL t x)
 |_,x=>x
def cellsL : AV→AV
 |.agg l=>l
 |v=>.cons v .nil
def isV : AV→Bool
 |.nil=>false
 |.cons _ _=>false
 |.whn _ u=>isV u
 |_=>true
theorem Znf {Z:Nat→Prop} {w:World} {u:AV} {ν:Nat→Value} {cs:List Value} (h:isAg u=false):R Z w u ν false cs↔R Z w u ν true cs:=by
 cases u<;>first|exact Iff.rfl|cases h
theorem R_isV {Z:Nat→Prop} {w:World} {ν:Nat→Value}:∀ {u:AV} {cs:List Value},isV u=true→R Z w u ν true cs→∃ v,cs=[v]:=by
 intro u
 induction u with
 |whn g u ih =>
  intro cs h hr
  cases g with
  |true=>exact ih h (hr.1 rfl)
  |false=>exact ⟨_,hr.2 rfl⟩
 |nil=>intro cs h;cases h
 |cons a b _ _=>intro cs h;cases h
 |any=>intro cs _ h;exact h
 |int k n=>intro cs _ h;exact ⟨_,h⟩
 |bool b=>intro cs _ h;exact ⟨_,h⟩
 |cst v=>intro cs _ h;exact ⟨_,h⟩
 |own k=>intro cs _ h;exact ⟨_,h⟩
 |adr k sz i o=>intro cs _ h;obtain ⟨b,f,_,e⟩:=h;exact ⟨_,e⟩
 |roI xs=>intro cs _ h;obtain ⟨A,cap,e,_⟩:=h;exact ⟨_,e⟩
 |roB xs=>intro cs _ h;obtain ⟨A,cap,e,_⟩:=h;exact ⟨_,e⟩
 |roII xs=>intro cs _ h;obtain ⟨A,cap,e,_⟩:=h;exact ⟨_,e⟩
 |ro sz n f _=>intro cs _ h;obtain ⟨A,cap,e,_⟩:=h;exact ⟨_,e⟩
 |rop u _=>intro cs _ h;obtain ⟨b,o,e,_⟩:=h;exact ⟨_,e⟩
 |agg l _=>intro cs _ h;obtain ⟨es,e,_⟩:=h;exact ⟨_,e⟩
 |tup l _=>intro cs _ h;obtain ⟨es,e,_⟩:=h;exact ⟨_,e⟩
 |fn f c _=>intro cs _ h;obtain ⟨es,e,_⟩:=h;exact ⟨_,e⟩
 |yld k=>intro cs _ h;obtain ⟨l,_,e⟩:=h;exact ⟨_,e⟩
theorem Znm {Z:Nat→Prop} {w:World} {ν:Nat→Value}:∀ {l:AV} {i:Nat} {cs:List Value},R Z w l ν true cs→i < lenL l→∃ v,cs[i]? = some v∧R Z w (nthL l i) ν true [v]:=by
 intro l
 induction l with
 |cons h t _ ih =>
  intro i cs hr hi
  obtain ⟨v,vs,rfl,r1,r2⟩:=hr
  cases i with
  |zero=>exact ⟨v,rfl,r1⟩
  |succ i=>exact ih r2 (by simp only [lenL] at hi;omega)
 |_=>intro i cs _ hi;simp only [lenL] at hi;omega
theorem Zng {Z : Nat → Prop} {w : World} {ν : Nat → Value} : ∀ {l : AV} {i : Nat} {cs : List Value}, R Z w l ν true cs → i ≤ lenL l → R Z w (dropL l i) ν true (cs.drop i) := by
  intro l
  induction l with
  | cons h t _ ih =>
    intro i cs hr hi
    cases i with
    | zero => exact hr
    | succ i =>
      obtain ⟨v, vs, rfl, r1, r2⟩ := hr
      exact ih r2 (by simp only [lenL] at hi; omega)
  | _ => intro i cs hr hi; simp only [lenL] at hi; obtain rfl : i = 0 := by omega
         exact hr
theorem Zne {Z : Nat → Prop} {w : World} {ν : Nat → Value} : ∀ {l : AV} {i : Nat} {cs : List Value}, R Z w l ν true cs → i ≤ lenL l → R Z w (takeL l i) ν true (cs.take i) := by
  intro l
  induction l with
  | cons h t _ ih =>
    intro i cs hr hi
    cases i with
    | zero => show cs.take 0 = []; simp
    | succ i =>
      obtain ⟨v, vs, rfl, r1, r2⟩ := hr
      exact ⟨v, vs.take i, rfl, r1, ih r2 (by simp only [lenL] at hi; omega)⟩
  | _ => intro i cs hr hi; simp only [lenL] at hi; obtain rfl : i = 0 := by omega
         show cs.take 0 = []; simp
theorem Zj5 {Z:Nat→Prop} {w:World} {ν:Nat→Value}:∀ {l:AV} {cs:List Value},properL l=true→R Z w l ν true cs→cs.length=lenL l:=by
 intro l
 induction l with
 |cons h t _ ih =>
  intro cs hp hr
  obtain ⟨v,vs,rfl,r1,r2⟩:=hr
  simp only [lenL,List.length_cons,ih hp r2]
 |nil=>intro cs _ hr;rw [show cs=[] from hr];rfl
 |_=>intro cs hp;cases hp
theorem Zgd : ∀ {l : AV} {i : Nat}, i ≤ lenL l → properL (takeL l i) = true := by
  intro l
  induction l with
  | cons h t _ ih => intro i hi; cases i with
    | zero => rfl
    | succ i => simp only [takeL, properL]; rw [ih (by simp only [lenL] at hi; omega)]
  | _ => intro i hi; simp only [lenL] at hi; obtain rfl : i = 0 := by omega
         rfl
theorem Zmp {μ:Nat→Bool}:∀ {l:AV} {i:Nat},men μ l=true→men μ (nthL l i)=true:=by
 intro l
 induction l with
 |cons h t _ ih=>intro i hm;simp only [men,Bool.and_eq_true] at hm;cases i with
  |zero=>exact hm.1
  |succ i=>exact ih hm.2
 |_=>intro i _;rfl
theorem Zi5 {μ:Nat→Bool}:∀ {l:AV} {i:Nat},men μ l=true→men μ (dropL l i)=true:=by
 intro l
 induction l with
 |cons h t _ ih=>intro i hm;cases i with
  |zero=>exact hm
  |succ i=>simp only [men,Bool.and_eq_true] at hm;exact ih hm.2
 |_=>intro i hm;cases i<;>exact hm
theorem Zi3 {μ:Nat→Bool}:∀ {l:AV} {i:Nat},men μ l=true→men μ (takeL l i)=true:=by
 intro l
 induction l with
 |cons h t _ ih=>intro i hm;cases i with
  |zero=>rfl
  |succ i=>simp only [men,takeL,Bool.and_eq_true] at hm ⊢;exact ⟨hm.1,ih hm.2⟩
 |_=>intro i hm;cases i<;>first|rfl|exact hm
theorem Zdz {μ:Nat→Bool} {u:AV} (h:men μ u=true):men μ (cellsL u)=true:=by
 cases u<;>simp_all [men,cellsL]
theorem Zj6 {Z:Nat→Prop} {w:World} {ν:Nat→Value} {u:AV} {cs:List Value} (hv:isV u=true) (h:R Z w u ν false cs):R Z w (cellsL u) ν true cs:=by
 cases u with
 |agg l=>exact h
 |nil=>cases hv
 |cons a b=>cases hv
 |_ =>
  have h':=(Znf (by rfl)).1 h
  obtain ⟨v,rfl⟩:=R_isV hv h'
  exact ⟨v,[],rfl,h',rfl⟩
/-! ### Reading -/
theorem Zey {w:World} {b:Nat} {cells:Array Value} {T:TypeId} {fr:Nat × Nat} {j:Nat} {c:Value} (h:w.heap[b]? = some (.cells cells T fr)) (hj:cells[j]? = some c):w.cell? ⟨b,j,none⟩=some c:=by
 simp [World.cell?,h,hj]
section
variable {P:Program}
theorem Zf2 {t:Nat} {d:TypeDesc} (h1:P.underlying t=some d) (h2:Zo0 d=false) (w:World):(isAgg t).run P w=.ok false w:=by
 cases d<;>first|(cases h2;done)|simp [isAgg,Sem.run_bind,run_underlying h1,Result.andThen,Sem.run]
theorem isAgg_leaf {t:Nat} {i:TI} (h:TOK P t i) (hk:∀ fs,i.k≠.str fs) (w:World):(isAgg t).run P w=.ok false w:=by
 cases hk':i.k with
 |leaf=>obtain ⟨d,h1,h2⟩:=h.leaf hk';exact Zf2 h1 h2 w
 |slc e=>exact Zf2 (h.slc e hk') rfl w
 |bool=>exact Zf2 (h.bool hk') rfl w
 |map=>obtain ⟨_,_,h1,_⟩:=h.map hk';exact Zf2 h1 rfl w
 |str fs=>exact absurd hk' (hk fs)
theorem isAgg_str {t:Nat} {i:TI} (h:TOK P t i) {fs:List (Nat × Nat × Bool)} (hk:i.k=.str fs) (w:World):(isAgg t).run P w=.ok true w:=by
 obtain ⟨arr,h1,_⟩:=h.str fs hk
 simp [isAgg,Sem.run_bind,run_underlying h1,Result.andThen]
theorem Zc9 {t:Nat} {i:TI} (h:TOK P t i) (w:World):(sizeOf t).run P w=.ok i.size w:=by
 obtain ⟨inf,h1,h2,_⟩:=h.info
 simp [sizeOf,typeInfo,Sem.run_bind,h1,h2,Result.andThen,program,Sem.run]
theorem Zeg {t:Nat} {i:TI} (h:TOK P t i) (hk:∀ fs,i.k≠.str fs) {w:World} {a:Addr} {v:Value} (hc:w.cell? a=some v):(Instr.loadAt t (.pointer (some a))).run P w=.ok v w:=by
 simp [Instr.loadAt,Instr.sureAddr,loadVar,Sem.run_bind,isAgg_leaf h hk,Result.andThen,load,Sem.run,hc]
theorem load_str {t:Nat} {i:TI} (h:TOK P t i) {fs:List (Nat × Nat × Bool)} (hk:i.k=.str fs) {w:World} {b o:Nat} {es:List Value} (hl:es.length=i.size) (hc:∀ (j:Nat) c,es[j]? = some c→w.cell? ⟨b,o+j,none⟩=some c) :
  (Instr.loadAt t (.pointer (some ⟨b,o,none⟩))).run P w=.ok (.agg es.toArray) w:=by
 have:=run_loadCells_list (P:=P) w ⟨b,o,none⟩ es (fun j v hv=>by rw [Addr.add_lit];exact hc j v hv)
 rw [hl] at this
 simp [Instr.loadAt,Instr.sureAddr,loadVar,Sem.run_bind,isAgg_str h hk,Zc9 h,Result.andThen,this]
def TI.isStr (i:TI):Bool:=match i.k with | .str _=>true|_=>false
def selv (i:TI) (u:AV) (o:Nat):Option AV :=
 if isV u && properL (cellsL u) && Nat.ble (o+i.size) (lenL (cellsL u)) then
  (if i.isStr then some (.agg (takeL (dropL (cellsL u) o) i.size)) else if Nat.beq i.size 1 then some (nthL (cellsL u) o) else none)
 else none
theorem Zhl {t : Nat} {i : TI} (h : TOK P t i) {Z : Nat → Prop} {w : World} {ν : Nat → Value} {u v : AV} {b o q : Nat} {es : List Value} (hr : R Z w u ν false es) (hc : ∀ (j : Nat) c, es[j]? = some c → w.cell? ⟨b, q + j, none⟩ = some c)
    (hs : selv i u o = some v) : ∃ x, (Instr.loadAt t (.pointer (some ⟨b, q + o, none⟩))).run P w = .ok x w ∧ R Z w v ν true [x] := by
  unfold selv at hs
  split at hs
  · rename_i hcond
    simp only [Bool.and_eq_true, Nat.ble_eq] at hcond
    obtain ⟨⟨hv, hp⟩, hle⟩ := hcond
    have hr' := Zj6 hv hr
    have hlen := Zj5 hp hr'
    cases hk : i.k with
    | str fs =>
      have : i.isStr = true := by simp [TI.isStr, hk]
      rw [if_pos this] at hs
      cases hs
      refine ⟨.agg ((es.drop o).take i.size).toArray, ?_, _, rfl, Zne (Zng hr' (by omega)) ?_⟩
      · refine load_str h hk (by simp; omega) fun j c hj => ?_
        have hjs : j < i.size := by
          have := (List.getElem?_eq_some_iff.1 hj).1
          simp at this; omega
        rw [List.getElem?_take, if_pos hjs, List.getElem?_drop] at hj
        rw [Nat.add_assoc]; exact hc _ c hj
      · have := Zj5 hp hr'
        have : ∀ (l : AV) (o : Nat), o ≤ lenL l → lenL (dropL l o) = lenL l - o := by
          intro l
          induction l with
          | cons h t _ ih => intro o ho; cases o with
            | zero => rfl
            | succ o => simp only [dropL, lenL] at ho ⊢; rw [ih o (by omega)]; omega
          | _ => intro o ho; simp only [lenL] at ho; obtain rfl : o = 0 := by omega
                 rfl
        rw [this _ _ (by omega)]; omega
    | leaf =>
      have : i.isStr = false := by simp [TI.isStr, hk]
      rw [if_neg (by simp [this])] at hs
      split at hs
      · rename_i h1
        have h1 := Nat.eq_of_beq_eq_true h1
        cases hs
        obtain ⟨x, hx, rx⟩ := Znm (i := o) hr' (by omega)
        exact ⟨x, Zeg h (by simp [hk]) (hc o x hx), rx⟩
      · cases hs
    | bool =>
      have : i.isStr = false := by simp [TI.isStr, hk]
      rw [if_neg (by simp [this])] at hs
      split at hs
      · rename_i h1
        have h1 := Nat.eq_of_beq_eq_true h1
        cases hs
        obtain ⟨x, hx, rx⟩ := Znm (i := o) hr' (by omega)
        exact ⟨x, Zeg h (by simp [hk]) (hc o x hx), rx⟩
      · cases hs
    | slc e =>
      have : i.isStr = false := by simp [TI.isStr, hk]
      rw [if_neg (by simp [this])] at hs
      split at hs
      · rename_i h1
        have h1 := Nat.eq_of_beq_eq_true h1
        cases hs
        obtain ⟨x, hx, rx⟩ := Znm (i := o) hr' (by omega)
        exact ⟨x, Zeg h (by simp [hk]) (hc o x hx), rx⟩
      · cases hs
    | map =>
      have : i.isStr = false := by simp [TI.isStr, hk]
      rw [if_neg (by simp [this])] at hs
      split at hs
      · rename_i h1
        have h1 := Nat.eq_of_beq_eq_true h1
        cases hs
        obtain ⟨x, hx, rx⟩ := Znm (i := o) hr' (by omega)
        exact ⟨x, Zeg h (by simp [hk]) (hc o x hx), rx⟩
      · cases hs
  · cases hs
theorem Zjr {i:TI} {u v:AV} {o:Nat} {μ:Nat→Bool} (hm:men μ u=true) (hs:selv i u o=some v):men μ v=true:=by
 unfold selv at hs
 split at hs
 ·split at hs
  ·cases hs;exact Zi3 (Zi5 (Zdz hm))
  ·split at hs
   ·cases hs;exact Zmp (Zdz hm)
   ·cases hs
 ·cases hs
end
open Go
def lkr (l:List (Nat × Option Blk)) (k:Nat):Option Blk:=match lko l k with|some b=>b|none=>none
abbrev Evp := Option (AV × List (Nat × Blk) × Prop)
def subv (u:AV) (o sz:Nat) (g:Bool):Option AV :=
 if isV u && properL (cellsL u) && Nat.ble (o+sz) (lenL (cellsL u)) then (if g then some (.agg (takeL (dropL (cellsL u) o) sz)) else if Nat.beq sz 1 && !isAg (nthL (cellsL u) o) then some (nthL (cellsL u) o) else none) else none
def evLoad (i:TI) (rs:List (Nat × Option Blk)):AV→Evp
 |.rop u=>match selv i u 0 with|some v=>some (v,[],True)|none=>none
 |.own k=>match lkr rs k with
  |some (.box u)=>match selv i u 0 with|some v=>some (v,[(k,.box u)],True)|none=>none
  |_=>none
 |.adr k sz ix o=>match lkr rs k with
  |some (.box u)=>match sz with|0=>(match selv i u o with|some v=>some (v,[(k,.box u)],True)|none=>none)|_=>none
  |some (.ints xs)=>if !i.isStr && Nat.beq sz 1 && Nat.beq o 0 then some (.int .i64 (xs.getD ix 0),[(k,.ints xs)],ix < xs.length) else none
  |some (.bools xs)=>if !i.isStr && Nat.beq sz 1 && Nat.beq o 0 then some (.bool (xs.getD ix false),[(k,.bools xs)],ix < xs.length) else none
  |some (.rowsR xs)=>if !i.isStr && Nat.beq sz 1 && Nat.beq o 0 then some (.roI (xs.getD ix []),[(k,.rowsR xs)],ix < xs.length) else none
  |some (.avs s n f)=>if Nat.beq s sz then match selv i (f ix) o with|some v=>some (v,[(k,.avs s n f)],ix < n)|none=>none else none
  |_=>none
 |_=>none
def evField (fs:List (Nat × Nat × Bool)) (f:Nat) (rs:List (Nat × Option Blk)) (x:AV):Evp :=
 match fs[f]? with
 |some (o,sz,g)=>match x with
  |.rop u=>match subv u o sz g with|some v=>some (.rop v,[],True)|none=>none
  |.own k=>match lkr rs k with|some (.box u)=>some (.adr k 0 0 o,[(k,.box u)],True)|_=>none
  |.adr k sz' ix o'=>some (.adr k sz' ix (o'+o),[],True)
  |_=>none
 |none=>none
def evIndex (sz:Nat) (rs:List (Nat × Option Blk)) (x:AV) (z:Int):Evp :=
 match x with
 |.roI xs=>match sz with|1=>some (.rop (.int .i64 (xs.getD z.toNat 0)),[],0≤z∧z < xs.length)|_=>none
 |.roB xs=>match sz with|1=>some (.rop (.bool (xs.getD z.toNat false)),[],0≤z∧z < xs.length)|_=>none
 |.roII xs=>match sz with|1=>some (.rop (.roI (xs.getD z.toNat [])),[],0≤z∧z < xs.length)|_=>none
 |.ro s n f=>if Nat.beq s sz then some (.rop (f z.toNat),[],0≤z∧z < n) else none
 |.own k=>match lkr rs k with
  |some (.ints xs)=>match sz with|1=>some (.adr k 1 z.toNat 0,[(k,.ints xs)],0≤z∧z < xs.length)|_=>none
  |some (.bools xs)=>match sz with|1=>some (.adr k 1 z.toNat 0,[(k,.bools xs)],0≤z∧z < xs.length)|_=>none
  |some (.rowsR xs)=>match sz with|1=>some (.adr k 1 z.toNat 0,[(k,.rowsR xs)],0≤z∧z < xs.length)|_=>none
  |some (.rows xs)=>match sz with|1=>some (.adr k 1 z.toNat 0,[(k,.rows xs)],0≤z∧z < xs.length)|_=>none
  |some (.rowsH xs i j)=>match sz with|1=>some (.adr k 1 z.toNat 0,[(k,.rowsH xs i j)],0≤z∧z < xs.length)|_=>none
  |some (.avs s n f)=>if Nat.beq s sz then some (.adr k sz z.toNat 0,[(k,.avs s n f)],0≤z∧z < n) else none
  |_=>none
 |_=>none
def inI (n:Int):Prop := -9223372036854775808≤n∧n≤9223372036854775807
def evBin : BinOp→AV→AV→Evp
 |.lss,.int .i64 a,.int .i64 b=>some (.bool (decide (a < b)),[],True)
 |.leq,.int .i64 a,.int .i64 b=>some (.bool (decide (a≤b)),[],True)
 |.gtr,.int .i64 a,.int .i64 b=>some (.bool (decide (b < a)),[],True)
 |.geq,.int .i64 a,.int .i64 b=>some (.bool (decide (b≤a)),[],True)
 |.eql,.int .i64 a,.int .i64 b=>some (.bool (decide (a=b)),[],True)
 |.neq,.int .i64 a,.int .i64 b=>some (.bool (!decide (a=b)),[],True)
 |.add,.int .i64 a,.int .i64 b=>some (.int .i64 (a+b),[],inI (a+b))
 |.sub,.int .i64 a,.int .i64 b=>some (.int .i64 (a - b),[],inI (a - b))
 |.mul,.int .i64 a,.int .i64 b=>some (.int .i64 (a * b),[],inI (a * b))
 |.rem,.int .i64 a,.int .i64 b=>some (.int .i64 (a % b),[],0≤a∧0 < b)
 |_,_,_=>none
def lenOf (rs:List (Nat × Option Blk)):AV→Evp
 |.roI xs=>some (.int .i64 xs.length,[],True)
 |.roB xs=>some (.int .i64 xs.length,[],True)
 |.roII xs=>some (.int .i64 xs.length,[],True)
 |.ro _ n _=>some (.int .i64 n,[],True)
 |.cst (.slice _ n _)=>some (.int .i64 n,[],True)
 |.own k=>match lkr rs k with
  |some (.ints xs)=>some (.int .i64 xs.length,[(k,.ints xs)],True)
  |some (.bools xs)=>some (.int .i64 xs.length,[(k,.bools xs)],True)
  |some (.rowsR xs)=>some (.int .i64 xs.length,[(k,.rowsR xs)],True)
  |some (.rows xs)=>some (.int .i64 xs.length,[(k,.rows xs)],True)
  |some (.avs s n f)=>some (.int .i64 n,[(k,.avs s n f)],True)
  |_=>none
 |_=>none
def isC : AV→Bool
 |.int _ _=>true
 |.bool _=>true
 |.own _=>true
 |.adr _ _ _ _=>true
 |.roI _=>true
 |.roB _=>true
 |.roII _=>true
 |.ro _ _ _=>true
 |.rop _=>true
 |.fn _ _=>true
 |.yld _=>true
 |.cst v=>match v with | .agg _=>false | .tuple _=>false|_=>true
 |.agg _=>true
 |_=>false
def fillL (fs:List (Nat × Nat × Bool)):AV→List (Nat × AV)→Option AV
 |l,[]=>some l
 |l,(f,v) :: r=>match fs[f]? with
  |some (o,sz,_)=>if isC v && properL (cellsL v) && Nat.beq (lenL (cellsL v)) sz && Nat.ble (o+sz) (lenL l) then fillL fs (appL (takeL l o) (appL (cellsL v) (dropL l (o+sz)))) r else none
  |none=>none
theorem Zgq {w:World} {x:Value} {sz n:Nat} {g:Nat→List Value→Prop} {F:Nat→Prop} (h:row w x sz n g F) {j:Nat} (hj:j < n) :
  ∃ b f cap,x=.slice (some ⟨b,f,none⟩) n cap∧∃ es,g j es∧es.length=sz∧∀ (i:Nat) c,es[i]? = some c→w.cell? ⟨b,f+(j * sz+i),none⟩=some c:=by
 rcases h with ⟨_,h0,_⟩|⟨b,f,cap,cells,T,hx,_,_,hh,_,_,hc⟩
 ·omega
 ·obtain ⟨es,g1,g2,g3⟩:=hc j hj
  exact ⟨b,f,cap,hx,es,g1,g2,fun i c hi=>Zey hh (g3 i c hi)⟩
theorem Zkr {w:World} {x:Value} {sz n:Nat} {g:Nat→List Value→Prop} {F:Nat→Prop} (h:row w x sz n g F):∃ A cap,x=.slice A n cap:=by
 rcases h with ⟨h0,h1,_⟩|⟨b,f,cap,cells,T,hx,_⟩
 ·subst h1;exact ⟨none,0,h0⟩
 ·exact ⟨_,_,hx⟩
section
variable {P:Program}
theorem index_some {t e:Nat} {i ie:TI} (h:TOK P t i) (hk:i.k=.slc e) (he:TOK P e ie) {A:Option Addr} {n cap:Nat} {z:Int} (h0:0≤z) (h1:z < n) {b o:Nat} (hA:A=some ⟨b,o,none⟩) (w:World) :
  (Instr.indexAt t (.slice A n cap) (.int .i64 z)).run P w=.ok (.pointer (some ⟨b,o+z.toNat * ie.size,none⟩)) w:=by
 subst hA
 have e1:(⟨b,o,none⟩:Addr).add (z.toNat * ie.size)=⟨b,o+z.toNat * ie.size,none⟩:=Addr.add_lit ..
 simp [Instr.indexAt,asIntOf,Sem.run_bind,run_underlying (h.slc e hk),Result.andThen,h0,h1,Zc9 he,e1]
theorem Zii {t:Nat} {i:TI} (h:TOK P t i) {fs:List (Nat × Nat × Bool)} (hk:i.k=.str fs) {f o sz:Nat} {g:Bool} (hf:fs[f]? = some (o,sz,g)) (b q:Nat) (w:World) :
  (Instr.fieldAt t (.pointer (some ⟨b,q,none⟩)) f).run P w=.ok (.pointer (some ⟨b,q+o,none⟩)) w:=by
 obtain ⟨arr,h1,h2,h3⟩:=h.str fs hk
 obtain ⟨fd,h4,h5,h6,inf,h7,h8⟩:=h3 f o sz g hf
 have e1:(⟨b,q,none⟩:Addr).add fd.offset=⟨b,q+o,none⟩:=by rw [h5];exact Addr.add_lit ..
 have hsz:(sizeOf fd.type).run P w=.ok sz w:=by simp [sizeOf,typeInfo,Sem.run_bind,h7,h8,Result.andThen,program,Sem.run]
 have hne:sz≠0:=by omega
 simp [Instr.fieldAt,Instr.sureAddr,Sem.run_bind,run_underlying h1,Result.andThen,h4,fieldPlace,hsz,hne,e1]
end
open Go
def ofL (f:Operand→AV):List Operand→AV
 |[]=>.nil
 |x :: t=>.cons (f x) (ofL f t)
def cutI (z:AV):Option Int:=match z with | .int .i64 n=>some n|_=>none
def bnd (get:Operand→AV) (d:Int):Option Operand→Option Int
 |none=>some d
 |some x=>cutI (get x)
def evSlice (x:AV) (lo:Int) (hi:Option Int):Evp :=
 match x with
 |.roI xs=>let h:=match hi with|some h=>h|none=>(xs.length:Int)
  some (.roI ((xs.take h.toNat).drop lo.toNat),[],0≤lo∧lo≤h∧h≤xs.length)
 |_=>none
def evp (tb:Nat→Option TI) (get:Operand→AV) (rs:List (Nat × Option Blk)):Op→Evp
 |.move x=>some (get x,[],True)
 |.assign x=>some (get x,[],True)
 |.load t a=>match tb t with|some i=>evLoad i rs (get a)|none=>none
 |.fieldAddr s x f=>match tb s with
  |some i=>match i.k with | .str fs=>evField fs f rs (get x)|_=>none
  |none=>none
 |.indexAddr t x ix=>match tb t with
  |some i=>match i.k with
   |.slc e=>match tb e with
    |some ie=>match get ix with | .int .i64 z=>evIndex ie.size rs (get x) z|_=>none
    |none=>none
   |_=>none
  |none=>none
 |.binOp op t x y _=>match get x,get y with
  |.bool a,.bool b=>match tb t with
   |some i=>match i.k,op with
    |.bool,.eql=>some (.bool (a == b),[],True)
    |.bool,.neq=>some (.bool (a != b),[],True)
    |_,_=>none
   |none=>none
  |u,v=>evBin op u v
 |.unOp op _ x=>match op,get x with
  |.not,.bool b=>some (.bool (!b),[],True)
  |.neg,.int .i64 n=>some (.int .i64 (IntKind.i64.wrap (-n)),[],True)
  |_,_=>none
 |.extract x n=>match get x with | .tup l=>if Nat.blt n (lenL l) then some (nthL l n,[],True) else none|_=>none
 |.build t parts=>match tb t with
  |some i=>match i.k with
   |.str fs=>if properL (cellsL i.zero) && isV i.zero && Nat.beq (lenL (cellsL i.zero)) i.size then match fillL fs (cellsL i.zero) (parts.toList.map fun p=>(p.1,get p.2)) with|some l=>some (.agg l,[],True)|none=>none else none
   |_=>none
  |none=>none
 |.makeFunc (.func f) first caps=>match first.toList with|[]=>some (.fn f (ofL get caps.toList),[],True)|_=>none
 |.nilCheck x=>match get x with
  |.own k=>match lkr rs k with|some (.box u)=>some (.own k,[(k,.box u)],True)|_=>none
  |.adr k sz i o=>some (.adr k sz i o,[],True)
  |.rop u=>some (.rop u,[],True)
  |.fn f c=>some (.fn f c,[],True)
  |_=>none
 |.slice t x lo hi none=>match tb t with
  |some i=>match i.k with
   |.slc e=>match tb e with
    |some ie=>if Nat.beq ie.size 1 then (match bnd get 0 lo with|some l=>(match hi with|none=>evSlice (get x) l none|some h=>match cutI (get h) with|some h=>evSlice (get x) l (some h)|none=>none)|none=>none) else none
    |none=>none
   |_=>none
  |none=>none
 |.call c=>match c.callee with
  |.builtin .len=>match c.args.toList,c.argTypes.toList with
   |[x],[t]=>match tb t with
    |some i=>match i.k with | .slc _=>lenOf rs (get x)|_=>none
    |none=>none
   |_,_=>none
  |.builtin .max=>match c.args.toList with
   |[x,y]=>match get x,get y with | .int .i64 a,.int .i64 b=>some (.int .i64 (max a b),[],True)|_,_=>none
   |[x,y,z]=>match get x,get y,get z with | .int .i64 a,.int .i64 b,.int .i64 c=>some (.int .i64 (max (max a b) c),[],True)|_,_,_=>none
   |_=>none
  |.builtin .min=>match c.args.toList with
   |[x,y]=>match get x,get y with | .int .i64 a,.int .i64 b=>some (.int .i64 (min a b),[],True)|_,_=>none
   |[x,y,z]=>match get x,get y,get z with | .int .i64 a,.int .i64 b,.int .i64 c=>some (.int .i64 (min (min a b) c),[],True)|_,_,_=>none
   |_=>none
  |_=>none
 |_=>none
def Says (P:Program) (rs:Rs) (rd:List (Nat × Blk)) (Z:Nat→Prop) (w:World) (ν:Nat→Value) (μ:Nat→Bool) (s:Sem Value) (val:AV):Prop :=
 (∀ p,p∈rd→rs p.1=some p.2)→∃ v,s.run P w=.ok v w∧R Z w val ν true [v]∧men μ val=true
section
variable {P:Program} {K Z:Nat→Prop} {ν:Nat→Value} {w:World} {get:Operand→AV} {ev:Operand→Value} {μ:Nat→Bool} {rs:Rs} {xs:List Operand} {l:List (Nat × Option Blk)}
theorem Zev {k:Nat} {b:Blk} {rd:List (Nat × Blk)} (hrd:rd=[(k,b)]) (h:∀ p,p∈rd→rs p.1=some p.2):rs k=some b:=by
 subst hrd;exact h (k,b) (by simp)
theorem Zl5 (hg:GoodRs K Z w ν μ rs) {k:Nat} {u:AV} (hk:rs k=some (.box u)) :
  ∃ b cells T,ν k=.pointer (some ⟨b,0,none⟩)∧w.heap[b]? = some (.cells cells T (0,0))∧R Z w u ν false cells.toList∧men μ u=true:=by
 obtain ⟨Ft,h⟩:=hg
 obtain ⟨_,h2,⟨b,cells,T,hx,hb,r,_⟩,_⟩:=h k _ hk
 exact ⟨b,cells,T,hx,hb,r,h2⟩
theorem Zh4 {b:Nat} {cells:Array Value} {T:TypeId} (hb:w.heap[b]? = some (.cells cells T (0,0))):∀ (j:Nat) c,cells.toList[j]? = some c→w.cell? ⟨b,0+j,none⟩=some c :=
 fun j c hc=>by rw [Nat.zero_add];exact Zey hb (by simpa using hc)
theorem one1 {v a:Value} (h:[v]=[a]):v=a:=by simpa using h
theorem says_load {t:Nat} {i:TI} (ht:TOK P t i) (hg:GoodRs K Z w ν μ rs) {u v:AV} {x:Value} (hr:R Z w u ν true [x]∧men μ u=true) {rd:List (Nat × Blk)} {ob:Prop} (h:evLoad i l u=some (v,rd,ob)) (hob:ob) :
  Says P rs rd Z w ν μ (Instr.loadAt t x) v:=by
 intro hrd
 obtain ⟨hr,hm⟩:=hr
 unfold evLoad at h
 split at h
 ·rename_i u
  obtain ⟨b,o,e,hz,hmn,es,r,hc⟩:=hr
  obtain rfl:=one1 e
  split at h
  ·rename_i v' hs
   simp only [Option.some.injEq,Prod.mk.injEq] at h
   obtain ⟨rfl,rfl,rfl⟩:=h
   obtain ⟨y,hy,ry⟩:=Zhl (o:=0) ht r hc hs
   have hm':=Zjr hmn hs
   exact ⟨y,hy,Zdi hm' ry,Zce hm'⟩
  ·cases h
 ·rename_i k
  obtain rfl:=one1 hr
  split at h
  ·rename_i u hk
   split at h
   ·rename_i v' hs
    simp only [Option.some.injEq,Prod.mk.injEq] at h
    obtain ⟨rfl,rfl,rfl⟩:=h
    obtain ⟨b,cells,T,hx,hb,r,hmu⟩:=Zl5 hg (Zev rfl hrd)
    obtain ⟨y,hy,ry⟩:=Zhl (o:=0) ht r (Zh4 hb) hs
    rw [hx]
    exact ⟨y,hy,ry,Zjr hmu hs⟩
   ·cases h
  ·cases h
 ·rename_i k sz ix o
  obtain ⟨b,f,hbase,e⟩:=hr
  obtain rfl:=one1 e
  split at h
  ·rename_i u hk
   split at h
   ·split at h
    ·rename_i v' hs
     simp only [Option.some.injEq,Prod.mk.injEq] at h
     obtain ⟨rfl,rfl,rfl⟩:=h
     obtain ⟨b',cells,T,hx,hb,r,hmu⟩:=Zl5 hg (Zev rfl hrd)
     rw [hx] at hbase
     simp only [Zgk,Option.some.injEq,Prod.mk.injEq] at hbase
     obtain ⟨rfl,rfl⟩:=hbase
     obtain ⟨y,hy,ry⟩:=Zhl (o:=o) ht r (Zh4 hb) hs
     refine ⟨y,?_,ry,Zjr hmu hs⟩
     rw [Nat.mul_zero,Nat.zero_add o];exact hy
    ·cases h
   ·cases h
  ·rename_i xs hk
   split at h
   ·rename_i hc
    simp only [Bool.and_eq_true,Bool.not_eq_true'] at hc
    obtain ⟨⟨hstr,h1⟩,h2⟩:=hc
    obtain rfl:=Nat.eq_of_beq_eq_true h1
    obtain rfl:=Nat.eq_of_beq_eq_true h2
    simp only [Option.some.injEq,Prod.mk.injEq] at h
    obtain ⟨rfl,rfl,rfl⟩:=h
    obtain ⟨Ft,hF⟩:=hg
    obtain ⟨_,_,hs,_⟩:=hF k _ (Zev rfl hrd)
    obtain ⟨b',f',cap,hx,es,rfl,_,hcell⟩:=Zgq hs hob
    rw [hx] at hbase
    simp only [Zgk,Option.some.injEq,Prod.mk.injEq] at hbase
    obtain ⟨rfl,rfl⟩:=hbase
    exact ⟨_,Zeg ht (fun fs hk=>by simp [TI.isStr,hk] at hstr) (hcell 0 _ rfl),rfl,rfl⟩
   ·cases h
  ·rename_i xs hk
   split at h
   ·rename_i hc
    simp only [Bool.and_eq_true,Bool.not_eq_true'] at hc
    obtain ⟨⟨hstr,h1⟩,h2⟩:=hc
    obtain rfl:=Nat.eq_of_beq_eq_true h1
    obtain rfl:=Nat.eq_of_beq_eq_true h2
    simp only [Option.some.injEq,Prod.mk.injEq] at h
    obtain ⟨rfl,rfl,rfl⟩:=h
    obtain ⟨Ft,hF⟩:=hg
    obtain ⟨_,_,hs,_⟩:=hF k _ (Zev rfl hrd)
    obtain ⟨b',f',cap,hx,es,rfl,_,hcell⟩:=Zgq hs hob
    rw [hx] at hbase
    simp only [Zgk,Option.some.injEq,Prod.mk.injEq] at hbase
    obtain ⟨rfl,rfl⟩:=hbase
    exact ⟨_,Zeg ht (fun fs hk=>by simp [TI.isStr,hk] at hstr) (hcell 0 _ rfl),rfl,rfl⟩
   ·cases h
  ·rename_i xs hk
   split at h
   ·rename_i hc
    simp only [Bool.and_eq_true,Bool.not_eq_true'] at hc
    obtain ⟨⟨hstr,h1⟩,h2⟩:=hc
    obtain rfl:=Nat.eq_of_beq_eq_true h1
    obtain rfl:=Nat.eq_of_beq_eq_true h2
    simp only [Option.some.injEq,Prod.mk.injEq] at h
    obtain ⟨rfl,rfl,rfl⟩:=h
    obtain ⟨Ft,hF⟩:=hg
    obtain ⟨_,_,hs,_⟩:=hF k _ (Zev rfl hrd)
    obtain ⟨b',f',cap,hx,es,hes,hlen,hcell⟩:=Zgq hs hob
    rw [hx] at hbase
    simp only [Zgk,Option.some.injEq,Prod.mk.injEq] at hbase
    obtain ⟨rfl,rfl⟩:=hbase
    obtain ⟨y,rfl⟩:=List.length_eq_one_iff.1 hlen
    exact ⟨y,Zeg ht (fun fs hk=>by simp [TI.isStr,hk] at hstr) (hcell 0 _ rfl),hes,rfl⟩
   ·cases h
  ·rename_i s n fn hk
   split at h
   ·rename_i hsz
    obtain rfl:=Nat.eq_of_beq_eq_true hsz
    split at h
    ·rename_i v' hsel
     simp only [Option.some.injEq,Prod.mk.injEq] at h
     obtain ⟨rfl,rfl,rfl⟩:=h
     obtain ⟨Ft,hF⟩:=hg
     obtain ⟨_,hmb,hs,_⟩:=hF k _ (Zev rfl hrd)
     obtain ⟨b',f',cap,hx,es,r,hlen,hcell⟩:=Zgq hs hob
     rw [hx] at hbase
     simp only [Zgk,Option.some.injEq,Prod.mk.injEq] at hbase
     obtain ⟨rfl,rfl⟩:=hbase
     obtain ⟨y,hy,ry⟩:=Zhl (o:=o) (q:=f'+ix * s) ht r (fun j c hj=>by rw [Nat.add_assoc];exact hcell j c hj) hsel
     refine ⟨y,?_,ry,Zjr (hmb ix hob) hsel⟩
     rw [←Nat.add_assoc];exact hy
    ·cases h
   ·cases h
  ·cases h
 ·cases h
theorem sub_cells {u v : AV} {o sz : Nat} {g : Bool} (hs : subv u o sz g = some v) {es : List Value} (hr : R Z w u ν false es) : ∃ es', R Z w v ν false es' ∧ ∀ (j : Nat) c, es'[j]? = some c → es[o + j]? = some c := by
  unfold subv at hs
  split at hs
  · rename_i hc
    simp only [Bool.and_eq_true, Nat.ble_eq] at hc
    obtain ⟨⟨hv, hp⟩, hle⟩ := hc
    have hr' := Zj6 hv hr
    split at hs
    · cases hs
      have hd : ∀ (l : AV) (o : Nat), o ≤ lenL l → lenL (dropL l o) = lenL l - o := by
        intro l
        induction l with
        | cons h t _ ih => intro o ho; cases o with
          | zero => rfl
          | succ o => simp only [dropL, lenL] at ho ⊢; rw [ih o (by omega)]; omega
        | _ => intro o ho; simp only [lenL] at ho; obtain rfl : o = 0 := by omega
               rfl
      refine ⟨(es.drop o).take sz, Zne (Zng hr' (by omega)) (by rw [hd _ _ (by omega)]; omega), fun j c hj => ?_⟩
      have hjs : j < sz := by have := (List.getElem?_eq_some_iff.1 hj).1; simp at this; omega
      rwa [List.getElem?_take, if_pos hjs, List.getElem?_drop] at hj
    · split at hs
      · rename_i h1
        simp only [Bool.and_eq_true, Bool.not_eq_true'] at h1
        obtain ⟨h1, ha⟩ := h1
        have h1 := Nat.eq_of_beq_eq_true h1
        cases hs
        obtain ⟨x, hx, rx⟩ := Znm (i := o) hr' (by omega)
        exact ⟨[x], (Znf ha).2 rx, fun j c hj => by
          cases j with
          | zero => simp at hj; subst hj; exact hx
          | succ j => simp at hj⟩
      · cases hs
  · cases hs
theorem men_sub {u v:AV} {o sz:Nat} {g:Bool} (hm:men μ u=true) (hs:subv u o sz g=some v):men μ v=true:=by
 unfold subv at hs
 split at hs
 ·split at hs
  ·cases hs;exact Zi3 (Zi5 (Zdz hm))
  ·split at hs
   ·cases hs;exact Zmp (Zdz hm)
   ·cases hs
 ·cases hs
theorem says_field {t f:Nat} {i:TI} (ht:TOK P t i) {fs:List (Nat × Nat × Bool)} (hk:i.k=.str fs) (hg:GoodRs K Z w ν μ rs) {u v:AV} {x:Value} (hr:R Z w u ν true [x]∧men μ u=true) {rd:List (Nat × Blk)} {ob:Prop}
  (h:evField fs f l u=some (v,rd,ob)):Says P rs rd Z w ν μ (Instr.fieldAt t x f) v:=by
 intro hrd
 obtain ⟨hr,hm⟩:=hr
 unfold evField at h
 split at h
 ·rename_i o sz g hf
  split at h
  ·rename_i u
   obtain ⟨b,q,e,hz,hmn,es,r,hc⟩:=hr
   obtain rfl:=one1 e
   split at h
   ·rename_i v' hs
    simp only [Option.some.injEq,Prod.mk.injEq] at h
    obtain ⟨rfl,rfl,rfl⟩:=h
    obtain ⟨es',r',hc'⟩:=sub_cells hs r
    exact ⟨_,Zii ht hk hf b q w,⟨b,q+o,rfl,hz,men_sub hmn hs,es',r',fun j c hj=>by rw [Nat.add_assoc];exact hc _ _ (hc' j c hj)⟩,rfl⟩
   ·cases h
  ·rename_i k
   obtain rfl:=one1 hr
   split at h
   ·rename_i u hkk
    simp only [Option.some.injEq,Prod.mk.injEq] at h
    obtain ⟨rfl,rfl,rfl⟩:=h
    obtain ⟨b,cells,T,hx,hb,r,hmu⟩:=Zl5 hg (Zev rfl hrd)
    refine ⟨_,by rw [hx];exact Zii ht hk hf b 0 w,⟨b,0,by rw [hx];rfl,by simp⟩,hm⟩
   ·cases h
  ·rename_i k sz' ix o'
   obtain ⟨b,q,hbase,e⟩:=hr
   obtain rfl:=one1 e
   simp only [Option.some.injEq,Prod.mk.injEq] at h
   obtain ⟨rfl,rfl,rfl⟩:=h
   exact ⟨_,Zii ht hk hf b _ w,⟨b,q,hbase,by simp [Nat.add_assoc]⟩,hm⟩
  ·cases h
 ·cases h
theorem ro_index {t e:Nat} {i ie:TI} (ht:TOK P t i) (hk:i.k=.slc e) (he:TOK P e ie) {g:Nat→List Value→Prop} {n:Nat} {x:Value} (hr:Zfp Z w ie.size n g [x]) {z:Int} (hz:0≤z∧z < n) :
  ∃ b q,(Instr.indexAt t x (.int .i64 z)).run P w=.ok (.pointer (some ⟨b,q,none⟩)) w∧Z b∧∃ es,g z.toNat es∧es.length=ie.size∧∀ (j:Nat) c,es[j]? = some c→w.cell? ⟨b,q+j,none⟩=some c:=by
 obtain ⟨A,cap,e1,h1,h2,h3⟩:=hr
 obtain rfl:=one1 e1
 obtain ⟨b,o,hA,hZ,hc⟩:=h3 (by omega)
 obtain ⟨es,g1,g2,g3⟩:=hc z.toNat (by omega)
 exact ⟨b,o+z.toNat * ie.size,index_some ht hk he hz.1 hz.2 hA w,hZ,es,g1,g2,fun j c hj=>by rw [Nat.add_assoc];exact g3 j c hj⟩
theorem own_index {t e:Nat} {i ie:TI} (ht:TOK P t i) (hk:i.k=.slc e) (he:TOK P e ie) {g:Nat→List Value→Prop} {n k:Nat} {F:Nat→Prop} (hr:row w (ν k) ie.size n g F) {z:Int} (hz:0≤z∧z < n) :
  ∃ b f,Zgk (ν k)=some (b,f)∧(Instr.indexAt t (ν k) (.int .i64 z)).run P w=.ok (.pointer (some ⟨b,f+(z.toNat * ie.size+0),none⟩)) w:=by
 obtain ⟨b,f,cap,hx,_⟩:=Zgq hr (show z.toNat < n by omega)
 exact ⟨b,f,by rw [hx];rfl,by rw [hx];exact index_some ht hk he hz.1 hz.2 rfl w⟩
theorem says_index {t e:Nat} {i ie:TI} (ht:TOK P t i) (hk:i.k=.slc e) (he:TOK P e ie) (hg:GoodRs K Z w ν μ rs) {u v:AV} {x:Value} (hr:R Z w u ν true [x]∧men μ u=true) {rd:List (Nat × Blk)} {ob:Prop} {z:Int}
  (h:evIndex ie.size l u z=some (v,rd,ob)) (hob:ob):Says P rs rd Z w ν μ (Instr.indexAt t x (.int .i64 z)) v:=by
 intro hrd
 obtain ⟨hr,hm⟩:=hr
 unfold evIndex at h
 split at h
 case h_1|h_2|h_3 =>
  split at h
  ·rename_i hsz
   simp only [Option.some.injEq,Prod.mk.injEq] at h
   obtain ⟨rfl,rfl,rfl⟩:=h
   obtain ⟨b,q,h1,h2,es,h3,h4,h5⟩:=ro_index ht hk he (g:=_) (by rw [hsz];exact hr) hob
   exact ⟨_,h1,⟨b,q,rfl,h2,rfl,es,by first|exact h3|(obtain ⟨y,rfl⟩:=List.length_eq_one_iff.1 (h4.trans hsz);exact h3),h5⟩,rfl⟩
  ·cases h
 case h_4 =>
  rename_i s n fn
  split at h
  ·rename_i hs
   obtain rfl:=Nat.eq_of_beq_eq_true hs
   simp only [Option.some.injEq,Prod.mk.injEq] at h
   obtain ⟨rfl,rfl,rfl⟩:=h
   obtain ⟨b,q,h1,h2,es,h3,h4,h5⟩:=ro_index ht hk he (g:=_) hr hob
   exact ⟨_,h1,⟨b,q,rfl,h2,h3.1,es,h3.2,h5⟩,rfl⟩
  ·cases h
 case h_5 =>
  rename_i k
  obtain rfl:=one1 hr
  obtain ⟨Ft,hF⟩:=hg
  split at h
  case h_1|h_2|h_3|h_4|h_5 =>
   split at h
   ·rename_i hsz
    simp only [Option.some.injEq,Prod.mk.injEq] at h
    obtain ⟨rfl,rfl,rfl⟩:=h
    obtain ⟨_,_,hs,_⟩:=hF k _ (Zev rfl hrd)
    have:∃ (n:Nat) (g:Nat→List Value→Prop) (F:Nat→Prop),row w (ν k) ie.size n g F∧(0≤z∧z < (n:Int)):=by
     rw [hsz]
     first
      |exact ⟨_,_,_,hs,hob⟩
      |(obtain ⟨ys,G,F0,h0,_⟩:=hs;exact ⟨_,_,_,h0,hob⟩)
    obtain ⟨n,g,F,hrow,hzn⟩:=this
    obtain ⟨b,f,h1,h2⟩:=own_index ht hk he hrow hzn
    rw [hsz] at h2
    exact ⟨_,h2,⟨b,f,h1,rfl⟩,hm⟩
   ·cases h
  case h_6 =>
   split at h
   ·rename_i s n fn _ hsz
    obtain rfl:=Nat.eq_of_beq_eq_true hsz
    simp only [Option.some.injEq,Prod.mk.injEq] at h
    obtain ⟨rfl,rfl,rfl⟩:=h
    obtain ⟨_,_,hs,_⟩:=hF k _ (Zev rfl hrd)
    obtain ⟨b,f,h1,h2⟩:=own_index ht hk he hs hob
    exact ⟨_,h2,⟨b,f,h1,rfl⟩,hm⟩
   ·cases h
  case h_7=>cases h
 case h_6=>cases h
theorem says_bin {op : BinOp} {t : Nat} {u1 u2 v : AV} {x1 x2 : Value} (h1 : R Z w u1 ν true [x1]) (h2 : R Z w u2 ν true [x2]) {rd : List (Nat × Blk)} {ob : Prop} (h : evBin op u1 u2 = some (v, rd, ob)) (hob : ob) (o1 o2 : Operand) :
    Says P rs rd Z w ν μ (do eqGuard op t o1 o2 x1 x2; binOp op t x1 x2) v := by
  intro _
  unfold evBin at h
  split at h <;>
    first
      | (cases h; done)
      | (simp only [Option.some.injEq, Prod.mk.injEq] at h
         obtain ⟨rfl, rfl, rfl⟩ := h
         obtain rfl := one1 h1
         obtain rfl := one1 h2
         refine ⟨_, by simp [eqGuard, binOp, Op.intCmp, Op.intArith, Sem.run_bind, Result.andThen, Sem.run]; rfl, ?_, rfl⟩
         first | exact rfl | exact congrArg (fun b => [Value.bool b]) (by simp) | exact congrArg (fun n => [Value.int .i64 n]) (IntWalk.i64_in _ hob)
               | exact congrArg (fun b => [Value.bool b]) (by simp [bne]; rfl))
      | (simp only [Option.some.injEq, Prod.mk.injEq] at h
         obtain ⟨rfl, rfl, rfl⟩ := h
         obtain rfl := one1 h1
         obtain rfl := one1 h2
         have hb := Int.ne_of_gt hob.2
         refine ⟨_, by simp [eqGuard, binOp, Op.intDiv, Sem.run_bind, Result.andThen, Sem.run, hb]; rfl, ?_, rfl⟩
         exact congrArg (fun n => [Value.int .i64 n]) (Int.tmod_eq_emod_of_nonneg hob.1))
theorem Zkp {t e:Nat} {i:TI} (ht:TOK P t i) (hk:i.k=.slc e) (A:Option Addr) (n cap:Nat) (ty:TypeId) (w:World):(Builtin.len_ #[t] ty #[.slice A n cap]).run P w=.ok (.int .i64 n) w:=by
 simp [Builtin.len_,Sem.run_bind,run_underlying (ht.slc e hk),Result.andThen,Sem.run,goInt]
theorem says_len {t e : Nat} {i : TI} (ht : TOK P t i) (hk : i.k = .slc e) (hg : GoodRs K Z w ν μ rs) {u v : AV} {x : Value} (hr : R Z w u ν true [x]) {rd : List (Nat × Blk)} {ob : Prop} (h : lenOf l u = some (v, rd, ob)) (ty : TypeId) :
    Says P rs rd Z w ν μ (Builtin.len_ #[t] ty #[x]) v := by
  intro hrd
  unfold lenOf at h
  split at h
  case h_1 | h_2 | h_3 | h_4 =>
    simp only [Option.some.injEq, Prod.mk.injEq] at h
    obtain ⟨rfl, rfl, rfl⟩ := h
    obtain ⟨A, cap, e1, _⟩ := hr
    obtain rfl := one1 e1
    exact ⟨_, Zkp ht hk _ _ _ _ w, rfl, rfl⟩
  case h_5 =>
    simp only [Option.some.injEq, Prod.mk.injEq] at h
    obtain ⟨rfl, rfl, rfl⟩ := h
    obtain rfl := one1 hr
    exact ⟨_, Zkp ht hk _ _ _ _ w, rfl, rfl⟩
  case h_6 =>
    obtain rfl := one1 hr
    obtain ⟨Ft, hF⟩ := hg
    split at h <;>
      first
        | (cases h; done)
        | (simp only [Option.some.injEq, Prod.mk.injEq] at h
           obtain ⟨rfl, rfl, rfl⟩ := h
           obtain ⟨_, _, hs, _⟩ := hF _ _ (Zev rfl hrd)
           first
             | (obtain ⟨A, cap, hx⟩ := Zkr hs; rw [hx]; exact ⟨_, Zkp ht hk _ _ _ _ w, rfl, rfl⟩)
             | (obtain ⟨ys, G, F0, h0, _⟩ := hs; obtain ⟨A, cap, hx⟩ := Zkr h0; rw [hx]; exact ⟨_, Zkp ht hk _ _ _ _ w, rfl, rfl⟩))
  case h_7 => cases h
theorem Zjm {t e:Nat} {i ie:TI} (ht:TOK P t i) (hk:i.k=.slc e) (he:TOK P e ie) (A:Option Addr) (n cap:Nat) (lo hi:Option Value) (l h:Nat) (hl:(lo=none∧l=0)∨lo=some (.int .i64 l)) (hh:(hi=none∧h=n)∨hi=some (.int .i64 h)) (h1:l≤h) (h2:h≤cap) (w:World) :
  (Instr.sliceAt t (.slice A n cap) lo hi none).run P w=.ok (.slice (if cap=l then A else A.map (·.add (l * ie.size))) (h - l) (cap - l)) w:=by
 have hu:=run_underlying (ht.slc e hk) w
 have hs:=Zc9 he w
 have h3:(l:Int)≤(h:Int):=by omega
 have h4:(h:Int)≤(cap:Int):=by omega
 rcases hl with ⟨rfl,rfl⟩|rfl<;>rcases hh with ⟨rfl,rfl⟩|rfl <;>
  simp [Instr.sliceAt,Instr.slice,Instr.sliceBounds,Instr.sliceBound,asIntOf,Sem.run_bind,hu,hs,Result.andThen,Sem.run,h1,h2,h3,h4]
theorem roRow_cut {xs:List Int} {A:Option Addr} {n cap l h:Nat} (hr:Zfp Z w 1 xs.length (Zdp xs) [.slice A n cap]) (h1:l≤h) (h2:h≤xs.length) :
  Zfp Z w 1 ((xs.take h).drop l).length (Zdp ((xs.take h).drop l)) [.slice (if cap=l then A else A.map (·.add (l * 1))) (h - l) (cap - l)]:=by
 obtain ⟨A',cap',e1,g1,g2,g3⟩:=hr
 simp only [List.cons.injEq,Value.slice.injEq,and_true] at e1
 obtain ⟨rfl,rfl,rfl⟩:=e1
 have hlen:((xs.take h).drop l).length=h - l:=by simp;omega
 rw [hlen]
 refine ⟨_,_,rfl,by omega,by omega,fun hp=>?_⟩
 obtain ⟨b,o,rfl,hz,hc⟩:=g3 (by omega)
 rw [if_neg (by omega)]
 refine ⟨b,o+l * 1,by simp [Addr.add_lit],hz,fun j hj=>?_⟩
 obtain ⟨es,e2,e3,e4⟩:=hc (l+j) (by omega)
 refine ⟨es,?_,e3,fun i c hi=>?_⟩
 ·rw [Zdp] at e2 ⊢
  rw [e2]
  congr 2
  simp only [List.getD_eq_getElem?_getD,List.getElem?_drop,List.getElem?_take]
  rw [if_pos (by omega)]
 ·have:=e4 i c hi
  rw [show o+l * 1+(j * 1+i)=o+((l+j) * 1+i) from by omega]
  exact this
theorem says_slice {t e:Nat} {i ie:TI} (ht:TOK P t i) (hk:i.k=.slc e) (he:TOK P e ie) (hsz:ie.size=1) {u v:AV} {x:Value} (hr:R Z w u ν true [x]) {rd:List (Nat × Blk)} {ob:Prop} {lo hi:Option Operand} {lz:Int} {hz:Option Int}
  (hlo:bnd get 0 lo=some lz) (hhi:(hi=none∧hz=none)∨∃ y z,hi=some y∧cutI (get y)=some z∧hz=some z) (hev:∀ y,lo=some y∨hi=some y→R Z w (get y) ν true [ev y]) (h:evSlice u lz hz=some (v,rd,ob)) (hob:ob) :
  Says P rs rd Z w ν μ (Instr.sliceAt t x (lo.map ev) (hi.map ev) none) v:=by
 intro _
 have hcut:∀ {a:AV} {z:Int},cutI a=some z→a=.int .i64 z:=by
  intro a z ha
  unfold cutI at ha
  split at ha
  ·simp only [Option.some.injEq] at ha;rw [ha]
  ·cases ha
 unfold evSlice at h
 split at h
 ·rename_i xs
  simp only [Option.some.injEq,Prod.mk.injEq] at h
  obtain ⟨rfl,rfl,rfl⟩:=h
  obtain ⟨A,cap,e1,g1,g2,g3⟩:=id hr
  obtain rfl:=one1 e1
  obtain ⟨o1,o2,o3⟩:=hob
  have hlv:(lo.map ev=none∧lz.toNat=0)∨lo.map ev=some (.int .i64 lz.toNat):=by
   cases lo with
   |none=>simp only [bnd,Option.some.injEq] at hlo;subst hlo;exact .inl ⟨rfl,rfl⟩
   |some y =>
    have:=hev y (.inl rfl)
    rw [hcut hlo] at this
    exact .inr (by simp only [Option.map_some];rw [one1 this];congr 2;omega)
  rcases hhi with ⟨rfl,rfl⟩|⟨y,z,rfl,hy,rfl⟩
  ·simp only at o2 o3 ⊢
   have e:((xs.length:Int)).toNat=xs.length:=by omega
   refine ⟨_,Zjm ht hk he A xs.length cap _ _ lz.toNat xs.length hlv (.inl ⟨rfl,rfl⟩) (by omega) (by omega) w,?_,rfl⟩
   rw [hsz,e]
   exact roRow_cut (n:=xs.length) hr (by omega) (by omega)
  ·simp only at o2 o3 ⊢
   have:=hev y (.inr rfl)
   rw [hcut hy] at this
   refine ⟨_,Zjm ht hk he A xs.length cap _ _ lz.toNat z.toNat hlv (.inr (by simp only [Option.map_some];rw [one1 this];congr 2;omega)) (by omega) (by omega) w,?_,rfl⟩
   rw [hsz]
   exact roRow_cut (n:=xs.length) hr (by omega) (by omega)
 ·cases h
end
end Go.Proofs.YtjcmlflljibikaaGreatDoor.Cal
