/- Own texts, merged. -/
import Derived.Test.YtjcmlflljibikaaGreatDoorS2
set_option linter.unusedVariables false
set_option linter.unusedSimpArgs false
open Nat (reduceAdd reduceSub reduceMul reduceEqDiff reduceLeDiff reduceLT)
namespace Go.Proofs.YtjcmlflljibikaaGreatDoor.Cal
open Go
section
variable {P:Program} {K Z:Nat→Prop} {ν:Nat→Value} {w:World} {get:Operand→AV} {ev:Operand→Value} {μ:Nat→Bool} {rs:Rs} {tb:Nat→Option TI}
theorem flat_at {sz:Nat}:∀ (vs:List Value),(∀ v,v∈vs→v.cells.size=sz)→∀ (j i:Nat) (v:Value),vs[j]? = some v→i < sz→(vs.flatMap fun v=>v.cells.toList)[j * sz+i]? = v.cells.toList[i]?:=by
 intro vs
 induction vs with
 |nil=>intro _ j i v h;simp at h
 |cons u vs ih =>
  intro hv j i v h hi
  have hu:u.cells.toList.length=sz:=by simpa using hv u List.mem_cons_self
  rw [List.flatMap_cons]
  cases j with
  |zero =>
   simp only [List.getElem?_cons_zero,Option.some.injEq] at h
   subst h
   rw [Nat.zero_mul,Nat.zero_add,List.getElem?_append_left (by omega)]
  |succ j =>
   rw [List.getElem?_append_right (by rw [Nat.succ_mul];omega)]
   have:(j+1) * sz+i - u.cells.toList.length=j * sz+i:=by rw [Nat.succ_mul];omega
   rw [this]
   exact ih (fun v hv'=>hv v (List.mem_cons_of_mem _ hv')) j i v h hi
theorem flat_len {sz:Nat}:∀ (vs:List Value),(∀ v,v∈vs→v.cells.size=sz)→(vs.flatMap fun v=>v.cells.toList).length=vs.length * sz:=by
 intro vs
 induction vs with
 |nil=>intro _;simp
 |cons u vs ih =>
  intro hv
  have hu:u.cells.toList.length=sz:=by simpa using hv u List.mem_cons_self
  rw [List.flatMap_cons,List.length_append,ih (fun v hv'=>hv v (List.mem_cons_of_mem _ hv')),List.length_cons,Nat.succ_mul]
  omega
theorem run_buildSlice {t e:Nat} {i ie:TI} (ht:TOK P t i) (hk:i.k=.slc e) (he:TOK P e ie) (vs:List Value) (hv:∀ v,v∈vs→v.cells.size=ie.size) (hn:vs.length * ie.size≤16777216) (w:World) :
  (Instr.buildSlice t vs.length (vs.zipIdx.map fun p=>(p.2,p.1)).toArray).run P w=.ok (.slice (some ⟨w.heap.size,0,none⟩) vs.length vs.length) (w.alloc (.cells (vs.flatMap fun v=>v.cells.toList).toArray e)):=by
 obtain ⟨inf,hi1,hi2,hi3,z,hz1,hzs,_,_,hz2⟩:=he.info
 have hti:∀ w:World,(typeInfo e).run P w=.ok inf w:=fun w=>by simp [typeInfo,Sem.run_bind,hi1,Result.andThen,program,Sem.run]
 have hzv:∀ w:World,(zeroValue e).run P w=.ok z w:=fun w=>by simp [zeroValue,Sem.run_bind,hti,hz1,Result.andThen,Sem.run]
 have hsize:∀ w:World,(sizeOf e).run P w=.ok ie.size w:=fun w=>Zc9 he w
 have hfill:∀ cells:Array Value,cells.size=vs.length * ie.size→Instr.fill (fun i=>some (i * ie.size,ie.size)) cells (vs.zipIdx.map fun p=>(p.2,p.1))=some (vs.flatMap fun v=>v.cells.toList).toArray:=fun cells hc=>by
  have:=fill_seq (sz:=ie.size) vs vs.length 0 cells hv (by omega) hc
  rw [this]
  rw [List.drop_eq_nil_of_le (by simp only [Array.length_toList];rw [hc,Nat.zero_add];exact Nat.le_refl _)]
  simp
 have hnot:¬ 16777216 < vs.length * ie.size:=by omega
 by_cases h00:vs.length * ie.size=0
 ·have hf:=hfill ((Array.range (vs.length * ie.size)).map fun _=>default) (by simp)
  simp only [Instr.buildSlice,Sem.run_bind,run_underlying (ht.slc e hk),hsize,Result.andThen_ok,Sem.run_pure,if_pos h00]
  simp [hnot,hf,newRow,newObj,Sem.run_bind,Result.andThen,Sem.run]
 ·have hf:=hfill ((Array.range (vs.length * ie.size)).map (z.cells[· % z.cells.size]!)) (by simp)
  simp only [Instr.buildSlice,Sem.run_bind,run_underlying (ht.slc e hk),hsize,Result.andThen_ok,Sem.run_pure,if_neg h00,hzv]
  simp [hnot,hzv,hf,newRow,newObj,Sem.run_bind,Result.andThen,Sem.run]
def partsOK (n:Nat) (parts:Array (Nat × Operand)):Bool:=Nat.beq parts.toList.length n && parts.toList.zipIdx.all fun p=>Nat.beq p.1.1 p.2
def elemsOf (get:Operand→AV) (parts:Array (Nat × Operand)):List AV:=parts.toList.map fun p=>get p.2
theorem parts_zip : ∀ (ps:List (Nat × Operand)) (k:Nat),((ps.zipIdx k).all fun p=>Nat.beq p.1.1 p.2)=true→ps.map (fun p=>(p.1,ev p.2))=((ps.map fun p=>ev p.2).zipIdx k).map fun p=>(p.2,p.1):=by
 intro ps
 induction ps with
 |nil=>intro k _;rfl
 |cons p ps ih =>
  intro k h
  simp only [List.zipIdx_cons,List.all_cons,Bool.and_eq_true] at h
  have h1:=Nat.eq_of_beq_eq_true h.1
  simp only [List.map_cons,List.zipIdx_cons,ih (k+1) h.2,h1]
def allC (l:List AV) (sz:Nat):Bool:=l.all fun u=>isC u && properL (cellsL u) && Nat.beq (lenL (cellsL u)) sz
def allN (l:List AV):Bool:=l.all fun u=>men noK u
theorem build_run {o:Oper} {t e n:Nat} {i ie:TI} {parts:Array (Nat × Operand)} (ho:o.op=.buildSlice t n parts) (ht:TOK P t i) (hk:i.k=.slc e) (he:TOK P e ie) (hp:partsOK n parts=true) (hc:allC (elemsOf get parts) ie.size=true) (hn:n * ie.size≤16777216)
  (h1:∀ k,(ν k).oneCell'=true) (hx:∀ x,x∈o.op.operands→R Z w (get x) ν true [ev x]∧men μ (get x)=true) :
  ∃ cells:Array Value,(execOp ev o).run P w=.ok (.value (.slice (some ⟨w.heap.size,0,none⟩) n n)) (w.alloc (.cells cells e))∧cells.size=n * ie.size∧n=(elemsOf get parts).length ∧
   ∀ j,j < n→∃ es,R Z w (cellsL ((elemsOf get parts).getD j .any)) ν true es∧men μ ((elemsOf get parts).getD j .any)=true∧es.length=ie.size∧∀ (q:Nat) c,es[q]? = some c→cells[0+(j * ie.size+q)]? = some c:=by
 simp only [partsOK,Bool.and_eq_true] at hp
 obtain ⟨hp1,hp2⟩:=hp
 have hp1:=Nat.eq_of_beq_eq_true hp1
 have hz:=parts_zip (ev:=ev) parts.toList 0 hp2
 have hel:∀ p,p∈parts.toList→R Z w (get p.2) ν true [ev p.2]∧men μ (get p.2)=true∧isC (get p.2)=true∧properL (cellsL (get p.2))=true∧lenL (cellsL (get p.2))=ie.size:=by
  intro p hpm
  have:=hx p.2 (by rw [ho];exact List.mem_toArray.2 (List.mem_map.2 ⟨p,hpm,rfl⟩))
  simp only [allC,elemsOf,List.all_eq_true,List.mem_map,Bool.and_eq_true] at hc
  have h3:=hc _ ⟨p,hpm,rfl⟩
  exact ⟨this.1,this.2,h3.1.1,h3.1.2,Nat.eq_of_beq_eq_true h3.2⟩
 have hvs:∀ v,v∈parts.toList.map (fun p=>ev p.2)→v.cells.size=ie.size:=by
  intro v hv
  obtain ⟨p,hpm,rfl⟩:=List.mem_map.1 hv
  obtain ⟨a1,a2,a3,a4,a5⟩:=hel p hpm
  have:=Zj5 a4 (Zfs h1 a3 a1)
  rw [←a5,←this];simp
 have hlen:(parts.toList.map fun p=>ev p.2).length=n:=by simpa using hp1
 have hrun:=run_buildSlice (P:=P) ht hk he (parts.toList.map fun p=>ev p.2) hvs (by rw [hlen];exact hn) w
 rw [hlen,←hz] at hrun
 have hpm:(parts.map fun p=>(p.1,ev p.2))=(parts.toList.map fun p=>(p.1,ev p.2)).toArray:=by apply Array.ext';simp
 refine ⟨_,?_,by rw [List.size_toArray,flat_len _ hvs,hlen],by simp [elemsOf];simpa using hp1.symm,fun j hj=>?_⟩
 ·rw [←hpm] at hrun
  simp [execOp,ho,Sem.run_bind,hrun,Result.andThen,Sem.run]
 ·have hjl:j < parts.toList.length:=by omega
  obtain ⟨a1,a2,a3,a4,a5⟩:=hel parts.toList[j] (List.getElem_mem hjl)
  have hrc:=Zfs h1 a3 a1
  have hln:=Zj5 a4 hrc
  have hgd:(elemsOf get parts).getD j .any=get (parts.toList[j]).2:=by
   simp only [elemsOf,List.getD_eq_getElem?_getD,List.getElem?_map,List.getElem?_eq_getElem hjl];rfl
  rw [hgd]
  refine ⟨_,hrc,a2,by omega,fun q c hq=>?_⟩
  have hqs:q < ie.size:=by have:=(List.getElem?_eq_some_iff.1 hq).1;omega
  have:=flat_at (sz:=ie.size) _ hvs j q (ev (parts.toList[j]).2) (by simp only [List.getElem?_map,List.getElem?_eq_getElem hjl];rfl) hqs
  rw [Nat.zero_add,List.getElem?_toArray,this]
  exact hq
theorem Zef {o:Oper} {t e n:Nat} {i ie:TI} {parts:Array (Nat × Operand)} (ho:o.op=.buildSlice t n parts) (ht:TOK P t i) (hk:i.k=.slc e) (he:TOK P e ie) (hp:partsOK n parts=true) (hc:allC (elemsOf get parts) ie.size=true) (hf:allN (elemsOf get parts)=true) (hsp:0 < ie.size) (hn:n * ie.size≤16777216)
  {v:AV} (hv:∀ (Z:Nat→Prop) (w:World) (ν:Nat→Value) (y:Value),Zfp Z w ie.size n (fun j es=>men noK ((elemsOf get parts).getD j .any)=true∧R Z w (cellsL ((elemsOf get parts).getD j .any)) nu0 true es) [y]→R Z w v ν true [y]) (hm:men noK v=true):OpSem P o get v [] [] none :=
 ⟨fun K Z ν w ev μ rs h1 hg hzk hkl hx hrd hkn=>by
  obtain ⟨cells,hrun,hsz,hnl,hel⟩:=build_run (P:=P) ho ht hk he hp hc hn h1 hx
  have hs:=Zds (Z:=Z) hkl (.cells cells e)
  have hzb:∀ b,Z b→(w.alloc (.cells cells e)).heap[b]? = w.heap[b]?:=fun b hb=>Zbi _ (hkl b (hzk b hb))
  refine ⟨_,_,ν,fun b=>Z b∨b=w.heap.size,.inl hrun,⟨hs.ext,fun _ h=>.inl h,fun b hb=>hb.imp id (fun e hK=>by have:=hkl b hK;omega)⟩,fun _ _=>rfl,h1,?_,hv _ _ _ _ ?_,Zce hm,fun b hb=>?_⟩
  ·exact hg.mono (fun _ h=>.inl h) hzb (by simp) (fun b hb=>by
    rcases hb with h|h|h
    ·exact .inl h
    ·exact .inl (hzk b h)
    ·exact .inr (by omega)) (fun b _ hb=>Zbi _ hb)
  ·have hn2:n≤lim:=by
    have:n * 1≤n * ie.size:=Nat.mul_le_mul_left _ hsp
    simp only [lim];omega
   refine ⟨_,n,rfl,Nat.le_refl _,hn2,fun h0=>⟨w.heap.size,0,rfl,.inr rfl,fun j hj=>?_⟩⟩
   obtain ⟨es,r,m,hl,hcell⟩:=hel j hj
   have hnk:men noK ((elemsOf get parts).getD j .any)=true:=by
    simp only [allN,List.all_eq_true] at hf
    exact hf _ (getD_mem_or _ _ _ (by omega))
   exact ⟨es,⟨hnk,Zdi (Zdz hnk) (Zbc (fun _ h=>.inl h) hzb r)⟩,hl,fun q c hq=>Zey (Zd3 _) (hcell q c hq)⟩
  ·have:b < w.heap.size+1:=hb.elim (fun h=>by have:=hkl b (hzk b h);omega) (fun h=>by omega)
   simpa using this⟩
theorem Zge {o:Oper} {t e n:Nat} {i ie:TI} {parts:Array (Nat × Operand)} (ho:o.op=.buildSlice t n parts) (ht:TOK P t i) (hk:i.k=.slc e) (he:TOK P e ie) (hp:partsOK n parts=true) (hc:allC (elemsOf get parts) ie.size=true) (hsp:0 < ie.size) (hn:n * ie.size≤16777216) (kn:Nat)
  {B:Blk} (hB:∀ (Z:Nat→Prop) (w:World) (ν:Nat→Value) (y:Value) (F:Nat→Prop),row w y ie.size n (fun j es=>R Z w (cellsL ((elemsOf get parts).getD j .any)) ν true es) F→sat Z w ν y F B) (hm:∀ μ,(∀ j,j < n→men μ ((elemsOf get parts).getD j .any)=true)→menB μ B):OpSem P o get (.own kn) [] [(kn,some B)] (some kn) :=
 ⟨fun K Z ν w ev μ rs h1 hg hzk hkl hx hrd hkn=>by
  have hk2:=hkn kn rfl
  obtain ⟨cells,hrun,hsz,hnl,hel⟩:=build_run (P:=P) ho ht hk he hp hc hn h1 hx
  have hn2:n≤lim:=by
   have:n * 1≤n * ie.size:=Nat.mul_le_mul_left _ hsp
   simp only [lim];omega
  have hzb:∀ b,Z b→(w.alloc (.cells cells e)).heap[b]? = w.heap[b]?:=fun b hb=>Zbi _ (hkl b (hzk b hb))
  refine ⟨_,_,upN ν kn (.slice (some ⟨w.heap.size,0,none⟩) n n),Z,.inl hrun,Zds hkl _,Zcd hk2,Zdm h1 rfl,?_,?_,Zbz,fun b hb=>by have:=hkl b (hzk b hb);simp;omega⟩
  ·rw [Zbt hzk]
   refine Zew (F:=fun y=>y=w.heap.size) hg hzk hkl hk2 (by simp) (fun y hy=>Zbi _ hy) (hB _ _ _ _ _ (.inr ⟨w.heap.size,0,n,cells,e,rfl,Nat.le_refl _,hn2,Zd3 _,by omega,fun _=>Iff.rfl,fun j hj=>?_⟩)) (hm _ fun j hj=>?_) (fun y hy=>by subst hy;simp)
   ·obtain ⟨es,r,m,hl,hcell⟩:=hel j hj
    exact ⟨es,R_nu (Zcd hk2) (Zdz m) (Zbc (fun _ h=>h) hzb r),hl,hcell⟩
   ·obtain ⟨es,r,m,_⟩:=hel j hj
    exact Zdt Zci m
  ·show [_]=[_];rw [upN_same]⟩
def collI : List AV→Option (List Int)
 |[]=>some []
 |.int .i64 n :: t=>match collI t with|some l=>some (n :: l)|none=>none
 |_=>none
def collB : List AV→Option (List Bool)
 |[]=>some []
 |.bool b :: t=>match collB t with|some l=>some (b :: l)|none=>none
 |_=>none
def collII : List AV→Option (List (List Int))
 |[]=>some []
 |.roI x :: t=>match collII t with|some l=>some (x :: l)|none=>none
 |_=>none
theorem Zi8 : ∀ {l:List AV} {xs:List Int},collI l=some xs→l=xs.map (.int .i64)
 |[],xs,h=>by simp only [collI,Option.some.injEq] at h;subst h;rfl
 |u :: t,xs,h=>by
  unfold collI at h
  split at h
  ·rename_i e;cases e
  ·rename_i n t' e
   cases e
   split at h
   ·rename_i l hl
    simp only [Option.some.injEq] at h
    subst h
    rw [List.map_cons,Zi8 hl]
   ·cases h
  ·cases h
theorem Zlg : ∀ {l:List AV} {xs:List Bool},collB l=some xs→l=xs.map .bool
 |[],xs,h=>by simp only [collB,Option.some.injEq] at h;subst h;rfl
 |u :: t,xs,h=>by
  unfold collB at h
  split at h
  ·rename_i e;cases e
  ·rename_i n t' e
   cases e
   split at h
   ·rename_i l hl
    simp only [Option.some.injEq] at h
    subst h
    rw [List.map_cons,Zlg hl]
   ·cases h
  ·cases h
theorem Zh3 : ∀ {l:List AV} {xs:List (List Int)},collII l=some xs→l=xs.map .roI
 |[],xs,h=>by simp only [collII,Option.some.injEq] at h;subst h;rfl
 |u :: t,xs,h=>by
  unfold collII at h
  split at h
  ·rename_i e;cases e
  ·rename_i n t' e
   cases e
   split at h
   ·rename_i l hl
    simp only [Option.some.injEq] at h
    subst h
    rw [List.map_cons,Zh3 hl]
   ·cases h
  ·cases h
theorem Zhz {α:Type} (f:α→AV) {xs:List α} {j:Nat} {d:α} (h:j < xs.length):(xs.map f).getD j .any=f (xs.getD j d):=by
 simp [List.getD_eq_getElem?_getD,List.getElem?_eq_getElem h]
theorem Zhs {u:AV} {es:List Value} (hu:cellsL u=.cons u .nil) (h:R Z w (cellsL u) ν true es):∃ v,es=[v]∧R Z w u ν true [v]:=by
 rw [hu] at h
 obtain ⟨v,vs,e,r1,r2⟩:=h
 have:vs=[]:=r2
 subst this
 exact ⟨v,e,r1⟩
theorem build_ro {l:List AV} {sz n:Nat} (ha:l.all isAg=true) (hn:n=l.length):∀ (Z:Nat→Prop) (w:World) (ν:Nat→Value) (y:Value),Zfp Z w sz n (fun j es=>men noK (l.getD j .any)=true∧R Z w (cellsL (l.getD j .any)) nu0 true es) [y]→R Z w (.ro sz n (fun j=>l.getD j .any)) ν true [y]:=by
 intro Z w ν y hr
 refine Zbk (fun _ h=>h) (fun _ _=>rfl) (fun j es hj hh=>?_) hr
 refine ⟨hh.1,?_⟩
 have hm:l.getD j .any∈l:=by
  rw [List.getD_eq_getElem?_getD,List.getElem?_eq_getElem (by omega)]
  exact List.getElem_mem _
 have hag:=List.all_eq_true.1 ha _ hm
 cases hg:l.getD j .any with
 |agg a =>
  have h2:=hh.2
  rw [hg] at h2
  show R Z w (l.getD j .any) nu0 false es
  rw [hg]
  exact h2
 |_=>rw [hg] at hag;cases hag
theorem build_ro1 {l:List AV} {a:AV} {sz n:Nat} (hl:l=[a]) (ha:l.all isAg=true) (hn:n=l.length):∀ (Z:Nat→Prop) (w:World) (ν:Nat→Value) (y:Value),Zfp Z w sz n (fun j es=>men noK (l.getD j .any)=true∧R Z w (cellsL (l.getD j .any)) nu0 true es) [y]→R Z w (.ro sz n (fun _=>a)) ν true [y]:=by
 intro Z w ν y hr
 refine Zbk (fun _ h=>h) (fun _ _=>rfl) (fun j es hj hh=>?_) (build_ro ha hn Z w ν y hr)
 have hj0:j=0:=by rw [hn,hl] at hj;simpa using hj
 subst hj0 hl
 exact hh
theorem build_roI {l:List AV} {xs:List Int} (h:collI l=some xs) {n:Nat} (hn:n=l.length):∀ (Z:Nat→Prop) (w:World) (ν:Nat→Value) (y:Value),Zfp Z w 1 n (fun j es=>men noK (l.getD j .any)=true∧R Z w (cellsL (l.getD j .any)) nu0 true es) [y]→R Z w (.roI xs) ν true [y]:=by
 intro Z w ν y hr
 have hl:=Zi8 h
 subst hl
 have hlen:n=xs.length:=by simpa using hn
 subst hlen
 refine Zbk (fun _ h=>h) (fun _ _=>rfl) (fun j es hj hh=>?_) hr
 have hh:=hh.2
 rw [Zhz (AV.int .i64) (d:=0) hj] at hh
 obtain ⟨v,rfl,r⟩:=Zhs rfl hh
 rw [Zdp,←one1 r]
theorem build_roB {l:List AV} {xs:List Bool} (h:collB l=some xs) {n:Nat} (hn:n=l.length):∀ (Z:Nat→Prop) (w:World) (ν:Nat→Value) (y:Value),Zfp Z w 1 n (fun j es=>men noK (l.getD j .any)=true∧R Z w (cellsL (l.getD j .any)) nu0 true es) [y]→R Z w (.roB xs) ν true [y]:=by
 intro Z w ν y hr
 have hl:=Zlg h
 subst hl
 have hlen:n=xs.length:=by simpa using hn
 subst hlen
 refine Zbk (fun _ h=>h) (fun _ _=>rfl) (fun j es hj hh=>?_) hr
 have hh:=hh.2
 rw [Zhz AV.bool (d:=false) hj] at hh
 obtain ⟨v,rfl,r⟩:=Zhs rfl hh
 rw [Zd0,←one1 r]
theorem build_roII {l:List AV} {xs:List (List Int)} (h:collII l=some xs) {n:Nat} (hn:n=l.length):∀ (Z:Nat→Prop) (w:World) (ν:Nat→Value) (y:Value),Zfp Z w 1 n (fun j es=>men noK (l.getD j .any)=true∧R Z w (cellsL (l.getD j .any)) nu0 true es) [y]→R Z w (.roII xs) ν true [y]:=by
 intro Z w ν y hr
 have hl:=Zh3 h
 subst hl
 have hlen:n=xs.length:=by simpa using hn
 subst hlen
 refine Zbk (fun _ h=>h) (fun _ _=>rfl) (fun j es hj hh=>?_) hr
 have hh:=hh.2
 rw [Zhz AV.roI (d:=[]) hj] at hh
 obtain ⟨v,rfl,r⟩:=Zhs rfl hh
 exact r
theorem build_ints {l:List AV} {xs:List Int} (h:collI l=some xs) {n:Nat} (hn:n=l.length):∀ (Z:Nat→Prop) (w:World) (ν:Nat→Value) (y:Value) (F:Nat→Prop),row w y 1 n (fun j es=>R Z w (cellsL (l.getD j .any)) ν true es) F→sat Z w ν y F (.ints xs):=by
 intro Z w ν y F hr
 have hl:=Zi8 h
 subst hl
 have hlen:n=xs.length:=by simpa using hn
 subst hlen
 refine Za3 (fun _ _=>rfl) (fun j es hj hh=>?_) hr
 rw [Zhz (AV.int .i64) (d:=0) hj] at hh
 obtain ⟨v,rfl,r⟩:=Zhs rfl hh
 rw [Zdp,←one1 r]
theorem build_rowsR {l:List AV} {xs:List (List Int)} (h:collII l=some xs) {n:Nat} (hn:n=l.length):∀ (Z:Nat→Prop) (w:World) (ν:Nat→Value) (y:Value) (F:Nat→Prop),row w y 1 n (fun j es=>R Z w (cellsL (l.getD j .any)) ν true es) F→sat Z w ν y F (.rowsR xs):=by
 intro Z w ν y F hr
 have hl:=Zh3 h
 subst hl
 have hlen:n=xs.length:=by simpa using hn
 subst hlen
 refine Za3 (fun _ _=>rfl) (fun j es hj hh=>?_) hr
 rw [Zhz AV.roI (d:=[]) hj] at hh
 obtain ⟨v,rfl,r⟩:=Zhs rfl hh
 exact r
end
open Go
section
variable {P:Program} {K Z:Nat→Prop} {ν:Nat→Value} {w:World} {get:Operand→AV} {ev:Operand→Value} {μ:Nat→Bool} {rs:Rs} {tb:Nat→Option TI}
theorem lko_two {k1 k2 k:Nat} {b1 b2:Option Blk}:lko [(k1,b1),(k2,b2)] k=if k=k1 then some b1 else if k=k2 then some b2 else none:=by
 simp only [lko]
 by_cases h1:k=k1
 ·subst h1;simp [Nat.beq_refl]
 ·have e1:Nat.beq k k1=false:=by cases hb:Nat.beq k k1 with|false=>rfl|true=>exact absurd (Nat.eq_of_beq_eq_true hb) h1
  rw [e1,if_neg h1]
  by_cases h2:k=k2
  ·subst h2;simp [Nat.beq_refl]
  ·have e2:Nat.beq k k2=false:=by cases hb:Nat.beq k k2 with|false=>rfl|true=>exact absurd (Nat.eq_of_beq_eq_true hb) h2
   rw [e2,if_neg h2]
theorem updL_two {rs':Rs} {k1 k2:Nat} {b1 b2:Option Blk}:updL rs' [(k1,b1),(k2,b2)]=fun j=>if j=k1 then b1 else if j=k2 then b2 else rs' j:=by
 funext j
 simp only [updL,lko_two]
 by_cases h1:j=k1
 ·rw [if_pos h1,if_pos h1]
 ·rw [if_neg h1,if_neg h1]
  by_cases h2:j=k2
  ·rw [if_pos h2,if_pos h2]
  ·rw [if_neg h2,if_neg h2]
theorem opsem_take {o:Oper} {t k ix:Nat} {i:TI} {a:Operand} {xss:List (List Int)} (ho:o.op=.load t a) (ht:TOK P t i) (hs:i.isStr=false) (ha:get a=.adr k 1 ix 0) (hix:ix < xss.length) (kn:Nat) :
  OpSem P o get (.own kn) [(k,.rows xss)] [(kn,some (.ints (xss.getD ix []))),(k,some (.rowsH xss ix kn))] (some kn) :=
 ⟨fun K Z ν w ev μ rs h1 hg hzk hkl hx hrd hkn=>by
  have hk2:=hkn kn rfl
  obtain ⟨ra,ma⟩:=hx a (by rw [ho];simp [Op.operands])
  rw [ha] at ra
  obtain ⟨b,f,hb,ea⟩:=ra
  have ea:=one1 ea
  obtain ⟨Ft,h⟩:=hg
  obtain ⟨u1,m1,⟨ys,G,F0,hrow,hat,hF⟩,hK,hd⟩:=h k _ (hrd (k,.rows xss) (by simp))
  obtain ⟨b',f',cap,hx',es,rfl,_,hc⟩:=Zgq hrow hix
  rw [hx'] at hb
  simp only [Zgk,Option.some.injEq,Prod.mk.injEq] at hb
  obtain ⟨rfl,rfl⟩:=hb
  have hcell:w.cell? ⟨b',f'+(ix * 1+0),none⟩=some (ys ix):=hc 0 (ys ix) rfl
  obtain ⟨rrow,rone,rap,rdis⟩:=hat ix hix trivial
  have hne:k≠kn:=by rintro rfl;rw [u1] at hk2;cases hk2
  have hload:=Zeg (P:=P) ht (fun fs hk=>by simp [TI.isStr,hk] at hs) hcell
  refine ⟨ys ix,w,upN ν kn (ys ix),Z,.inl ?_,Step.refl K Z w,Zcd hk2,Zdm h1 rone,?_,?_,Zbz,fun b hb=>hkl b (hzk b hb)⟩
  ·simp only [execOp,ho,ea,Sem.run_bind,hload,Result.andThen_ok,Sem.run_pure]
  ·rw [Zbt hzk,updL_two]
   refine ⟨fun j=>if j=kn then G ix else if j=k then (fun y=>F0 y∨∃ j,j < xss.length∧j≠ix∧G j y) else Ft j,fun j B hj=>?_⟩
   have sub1:∀ y,G ix y→Ft k y:=fun y hy=>(hF y).2 (.inr ⟨ix,hix,hy⟩)
   have sub2:∀ y,(F0 y∨∃ j,j < xss.length∧j≠ix∧G j y)→Ft k y:=fun y hy=>(hF y).2 (hy.imp id fun ⟨j,a,_,c⟩=>⟨j,a,c⟩)
   have apart:∀ y,G ix y→¬ (F0 y∨∃ j,j < xss.length∧j≠ix∧G j y):=by
    rintro y hy (h|⟨j,a,b,c⟩)
    ·exact rap y hy h
    ·exact rdis j a trivial b y hy c
   by_cases h1:j=kn
   ·subst h1
    simp only [if_pos rfl] at hj ⊢
    cases hj
    rw [upN_same]
    refine ⟨Zbz,trivial,rrow,fun y hy=>hK y (sub1 y hy),fun k' b' hne' hk' y hy=>?_⟩
    rw [if_neg (Ne.symm hne')] at hk' ⊢
    split
    ·exact apart y hy
    ·rw [if_neg ‹_›] at hk';exact hd k' b' (Ne.symm ‹_›) hk' y (sub1 y hy)
   ·simp only [if_neg h1] at hj ⊢
    rw [Zfn h1]
    by_cases h2:j=k
    ·subst h2
     simp only [if_pos rfl] at hj ⊢
     cases hj
     refine ⟨Zci _ u1,Zbz,⟨ys,G,F0,hrow,fun j hj hji=>?_,upN_same.symm,fun y=>Iff.rfl⟩,fun y hy=>hK y (sub2 y hy),fun k' b' hne' hk' y hy=>?_⟩
     ·obtain ⟨a1,a2,a3,a4⟩:=hat j hj trivial
      exact ⟨a1,a2,a3,fun i hi _ hne=>a4 i hi trivial hne⟩
     ·split
      ·exact fun h=>apart y h hy
      ·rw [if_neg ‹_›,if_neg (Ne.symm hne')] at hk'
       rw [if_neg (Ne.symm hne')]
       exact hd k' b' hne' hk' y (sub2 y hy)
    ·simp only [if_neg h2] at hj ⊢
     obtain ⟨g1,g2,g3,g4,g5⟩:=h j B hj
     refine ⟨Zci _ g1,Zdo Zci g2,Zet (Zcd hk2) g2 g3,g4,fun k' b' hne' hk' y hy=>?_⟩
     split
     ·exact fun h=>g5 k _ h2 (hrd (k,.rows xss) (by simp)) y hy (sub1 y h)
     ·rw [if_neg ‹_›] at hk'
      split
      ·exact fun h=>g5 k _ h2 (hrd (k,.rows xss) (by simp)) y hy (sub2 y h)
      ·rw [if_neg ‹_›] at hk'
       exact g5 k' b' hne' hk' y hy
  ·show [_]=[_];rw [upN_same]⟩
theorem opsem_put {o:Oper} {t k k1 k2 ix:Nat} {i:TI} {a x:Operand} {xss:List (List Int)} {zs:List Int} (ho:o.op=.store t a x) (ht:TOK P t i) (hsz:i.size=1) (ha:get a=.adr k 1 ix 0) (hx2:get x=.own k2) (hix:ix < xss.length) (hne2:Nat.beq k k2=false) :
  OpSem P o get .any [(k,.rowsH xss ix k1),(k2,.ints zs)] [(k,some (.rows (xss.set ix zs))),(k2,none)] none :=
 ⟨fun K Z ν w ev μ rs h1 hg hzk hkl hx hrd hkn=>by
  have hne2:k≠k2:=by rintro rfl;rw [Nat.beq_refl] at hne2;cases hne2
  obtain ⟨ra,ma⟩:=hx a (by rw [ho];simp [Op.operands])
  obtain ⟨rx,mx⟩:=hx x (by rw [ho];simp [Op.operands])
  rw [ha] at ra
  rw [hx2] at rx
  obtain ⟨b,f,hb,ea⟩:=ra
  have ea:=one1 ea
  have ex:=one1 rx
  obtain ⟨Ft,h⟩:=hg
  have r1:=hrd (k,.rowsH xss ix k1) (by simp)
  have r2:=hrd (k2,.ints zs) (by simp)
  obtain ⟨u1,m1,⟨ys,G,F0,hrow,hat,_,hF⟩,hK,hd⟩:=h k _ r1
  obtain ⟨u2,m2,s2,hK2,hd2⟩:=h k2 _ r2
  have hone:(ν k2).oneCell'=true:=h1 k2
  obtain ⟨b',f',hb',hbF,hrun,hw⟩:=row_set (P:=P) hrow hix (o:=0) (vs:=[ν k2]) (by simp) (by intro v hv;simp at hv;subst hv;exact hone)
  rw [hb] at hb'
  simp only [Option.some.injEq,Prod.mk.injEq] at hb'
  obtain ⟨rfl,rfl⟩:=hb'
  obtain ⟨w1,w2,w3,w4,w5,w6⟩:=hw _ rfl
  generalize hwd:w.setRow b _=w' at hrun w1 w2 w3 w4 w5 w6
  have hbk:Ft k b:=(hF b).2 (.inl hbF)
  have hbK:¬ K b:=(hK b hbk).1
  have hzw:∀ y,Z y→w'.heap[y]? = w.heap[y]?:=fun y hy=>w1 y (fun e=>hbK (hzk b (e▸hy)))
  have hcells:(ev x).cells = #[ν k2]:=by rw [ex];exact (Zd8 (u:=.own k2) (Z:=Z) (w:=w) (ν:=ν) h1 rfl rfl rfl).2
  refine ⟨undef,w',ν,Z,.inr ⟨Zjk ho ?_,rfl⟩,⟨⟨w3,w4,w5,by omega,fun y hy=>w1 y (fun e=>hbK (e▸hy))⟩,fun _ h=>h,fun _ h=>.inl h⟩,fun _ _=>rfl,h1,?_,⟨_,rfl⟩,rfl,fun y hy=>by rw [w2];exact hkl y (hzk y hy)⟩
  ·rw [ea]
   exact run_store ht (by rw [hcells,hsz];rfl) _ (by rw [hcells];exact hrun)
  ·rw [Zbt hzk,updL_two]
   have hold:∀ y,y≠b→w'.heap[y]? = w.heap[y]?:=w1
   refine ⟨fun j=>if j=k then (fun y=>F0 y∨∃ j,j < xss.length∧(if j=ix then Ft k2 y else G j y)) else if j=k2 then (fun _=>False) else Ft j,fun j B hj=>?_⟩
   have sub:∀ y,(F0 y∨∃ j,j < xss.length∧(if j=ix then Ft k2 y else G j y))→Ft k y∨Ft k2 y:=by
    rintro y (h|⟨j,a,c⟩)
    ·exact .inl ((hF y).2 (.inl h))
    ·split at c
     ·exact .inr c
     ·exact .inl ((hF y).2 (.inr ⟨j,a,‹_›,c⟩))
   have hb2:¬ Ft k2 b:=hd k2 _ hne2 r2 b hbk
   by_cases hjk:j=k
   ·subst hjk
    simp only [if_pos rfl] at hj ⊢
    cases hj
    refine ⟨u1,trivial,⟨fun j=>if j=ix then ν k2 else ys j,fun j y=>if j=ix then Ft k2 y else G j y,F0,?_,?_,fun y=>by rw [List.length_set,if_pos trivial]⟩,fun y hy=>?_,fun k' b' hne' hk' y hy=>?_⟩
    ·rw [List.length_set]
     refine Za3 (fun _ _=>rfl) (fun j es hj=>?_) w6
     rintro ⟨es0,rfl,_,e3⟩
     rw [e3]
     dsimp only
     by_cases hji:j=ix
     ·rw [if_pos hji,if_pos hji];rfl
     ·rw [if_neg hji,if_neg hji]
    ·intro j hj _
     rw [List.length_set] at hj
     rw [Zb5 hix]
     by_cases hji:j=ix
     ·subst hji
      simp only [if_pos rfl]
      refine ⟨Za3 (fun y hy=>hold y (fun e=>hb2 (e▸hy))) (fun _ _ _ h=>h) s2,hone,fun y hy hf=>hd k2 _ hne2 r2 y ((hF y).2 (.inl hf)) hy,fun i hi _ hij y hy=>?_⟩
      rw [if_neg hij]
      rw [List.length_set] at hi
      exact fun hgi=>hd k2 _ hne2 r2 y ((hF y).2 (.inr ⟨i,hi,hij,hgi⟩)) hy
     ·simp only [if_neg hji]
      obtain ⟨a1,a2,a3,a4⟩:=hat j hj hji
      refine ⟨Za3 (fun y hy=>hold y (fun e=>a3 y hy (e▸hbF))) (fun _ _ _ h=>h) a1,a2,a3,fun i hi _ hij y hy=>?_⟩
      rw [List.length_set] at hi
      by_cases hii:i=ix
      ·subst hii
       rw [if_pos rfl]
       exact fun hf=>hd k2 _ hne2 r2 y ((hF y).2 (.inr ⟨j,hj,hji,hy⟩)) hf
      ·rw [if_neg hii];exact a4 i hi hii hij y hy
    ·rcases sub y hy with h|h
     ·exact ⟨(hK y h).1,by rw [w2];exact (hK y h).2⟩
     ·exact ⟨(hK2 y h).1,by rw [w2];exact (hK2 y h).2⟩
    ·rw [if_neg (Ne.symm hne')] at hk' ⊢
     split
     ·exact fun h=>h
     ·rw [if_neg ‹_›] at hk'
      rcases sub y hy with h|h
      ·exact hd k' b' hne' hk' y h
      ·exact hd2 k' b' (Ne.symm ‹_›) hk' y h
   ·simp only [if_neg hjk] at hj ⊢
    by_cases hj2:j=k2
    ·subst hj2;simp at hj
    ·simp only [if_neg hj2] at hj ⊢
     obtain ⟨g1,g2,g3,g4,g5⟩:=h j B hj
     refine ⟨g1,g2,Zbl (fun _ h=>h) hzw (fun y hy=>hold y (fun e=>g5 k _ hjk r1 y hy (e▸hbk))) g3,fun y hy=>⟨(g4 y hy).1,by rw [w2];exact (g4 y hy).2⟩,fun k' b' hne' hk' y hy=>?_⟩
     split
     ·intro hs
      rcases sub y hs with h|h
      ·exact g5 k _ hjk r1 y hy h
      ·exact g5 k2 _ hj2 r2 y hy h
     ·rw [if_neg ‹_›] at hk'
      split
      ·exact fun h=>h
      ·rw [if_neg ‹_›] at hk';exact g5 k' b' hne' hk' y hy⟩
end
open Go
structure EvR where
 val:AV
 rd:List (Nat × Blk)
 wr:List (Nat × Option Blk)
 kn:Option Nat
 ob:Prop
def strip : AV→AV
 |.whn _ u=>u
 |u=>u
def gd : AV→Prop
 |.whn g _=>g=true
 |_=>True
def isNilS : Value→Bool
 |.slice none 0 0=>true
 |_=>false
def makeB (ie:TI) (alt:Bool) (n:Nat):Option Blk :=
 match ie.zero with
 |.int .i64 z=>if z=0 then (if Nat.beq ie.size 1 then some (.ints (List.replicate n 0)) else none) else none
 |.bool b=>match b with|false=>if Nat.beq ie.size 1 then some (.bools (List.replicate n false)) else none|true=>none
 |.cst v=>if isNilS v && Nat.beq ie.size 1 then (match alt with|true=>some (.rowsR (List.replicate n []))|false=>some (.rows (List.replicate n []))) else none
 |.agg l=>some (.avs ie.size n (fun _=>.agg l))
 |_=>none
def stBox (i:TI) (k:Nat) (u:AV) (off:Nat) (ux:AV):Option EvR :=
 if isCC ux && properL (cellsL ux) && Nat.beq (lenL (cellsL ux)) i.size && Nat.ble 1 i.size && isV u && properL (cellsL u) && Nat.ble (off+i.size) (lenL (cellsL u)) && (isAg u || !isAg ux) then some ⟨.any,[(k,.box u)],[(k,some (.box (updv u off ux)))],none,True⟩ else none
def evStore (i:TI) (l:List (Nat × Option Blk)) (ua ux:AV):Option EvR :=
 match ua with
 |.own k=>match lkr l k with
  |some (.box u)=>stBox i k u 0 ux
  |_=>none
 |.adr k sz ix off=>match lkr l k with
  |some (.box u)=>match sz,ix with
   |0,0=>stBox i k u off ux
   |_,_=>none
  |some (.ints xs)=>match sz,off,i.size,ux with
   |1,0,1,.int .i64 n=>some ⟨.any,[(k,.ints xs)],[(k,some (.ints (xs.set ix n)))],none,ix < xs.length⟩
   |_,_,_,_=>none
  |some (.bools xs)=>match sz,off,i.size,ux with
   |1,0,1,.bool n=>some ⟨.any,[(k,.bools xs)],[(k,some (.bools (xs.set ix n)))],none,ix < xs.length⟩
   |_,_,_,_=>none
  |some (.rowsR xs)=>match sz,off,i.size,ux with
   |1,0,1,.roI n=>some ⟨.any,[(k,.rowsR xs)],[(k,some (.rowsR (xs.set ix n)))],none,ix < xs.length⟩
   |_,_,_,_=>none
  |some (.rowsH xs ih k1)=>match sz,off,i.size,ux with
   |1,0,1,.own k2=>match lkr l k2 with
    |some (.ints zs)=>if Nat.beq k k2 then none else some ⟨.any,[(k,.rowsH xs ih k1),(k2,.ints zs)],[(k,some (.rows (xs.set ix zs))),(k2,none)],none,ix=ih∧ix < xs.length⟩
    |_=>none
   |_,_,_,_=>none
  |some (.avs s n f)=>if Nat.beq s sz && isCC ux && properL (cellsL ux) && Nat.beq (lenL (cellsL ux)) i.size && Nat.ble 1 i.size && Nat.ble (off+i.size) sz then
    some ⟨.any,[(k,.avs s n f)],[(k,some (.avs s n (fun j=>if j=ix then updv (f ix) off ux else f j)))],none,ix < n∧isV (f ix)=true∧properL (cellsL (f ix))=true∧lenL (cellsL (f ix))=s∧(isAg (f ix) || !isAg ux)=true⟩ else none
  |_=>none
 |_=>none
def srcI (l:List (Nat × Option Blk)):AV→Option (List Int × List (Nat × Blk))
 |.roI ys=>some (ys,[])
 |.own k=>match lkr l k with|some (.ints ys)=>some (ys,[(k,.ints ys)])|_=>none
 |_=>none
def srcB (l:List (Nat × Option Blk)):AV→Option (List Bool × List (Nat × Blk))
 |.roB ys=>some (ys,[])
 |.own k=>match lkr l k with|some (.bools ys)=>some (ys,[(k,.bools ys)])|_=>none
 |_=>none
def srcR (l:List (Nat × Option Blk)):AV→Option (List (List Int) × List (Nat × Blk))
 |.roII ys=>some (ys,[])
 |.own k=>match lkr l k with|some (.rowsR ys)=>some (ys,[(k,.rowsR ys)])|_=>none
 |_=>none
def evApp (l:List (Nat × Option Blk)) (kn:Nat) (ux uy:AV):Option EvR :=
 match ux with
 |.own k=>match lkr l k with
  |some (.ints xs)=>match srcI l uy with
   |some (ys,rd)=>some ⟨.own kn,(k,.ints xs) :: rd,[(kn,some (.ints (xs++ys))),(k,none)],some kn,xs.length+ys.length≤1000000000000⟩
   |none=>none
  |some (.bools xs)=>match srcB l uy with
   |some (ys,rd)=>some ⟨.own kn,(k,.bools xs) :: rd,[(kn,some (.bools (xs++ys))),(k,none)],some kn,xs.length+ys.length≤1000000000000⟩
   |none=>none
  |some (.rowsR xs)=>match srcR l uy with
   |some (ys,rd)=>some ⟨.own kn,(k,.rowsR xs) :: rd,[(kn,some (.rowsR (xs++ys))),(k,none)],some kn,xs.length+ys.length≤1000000000000⟩
   |none=>none
  |_=>none
 |.cst v=>match isNilS v with
  |true=>match srcI l uy with
   |some (ys,rd)=>some ⟨.own kn,rd,[(kn,some (.ints ys))],some kn,ys.length≤1000000000000⟩
   |none=>match srcB l uy with
    |some (ys,rd)=>some ⟨.own kn,rd,[(kn,some (.bools ys))],some kn,ys.length≤1000000000000⟩
    |none=>match srcR l uy with
     |some (ys,rd)=>some ⟨.own kn,rd,[(kn,some (.rowsR ys))],some kn,ys.length≤1000000000000⟩
     |none=>none
  |false=>none
 |_=>none
def evAppS (sz:Nat) (l:List (Nat × Option Blk)) (kn:Nat) (ux uy:AV):Option EvR :=
 match uy with
 |.ro s 1 g=>if Nat.beq s sz && isAg (g 0) && isCC (g 0) && men noK (g 0) then (match ux with
  |.own k=>match lkr l k with
   |some (.avs s' n f)=>if Nat.beq s' sz then some ⟨.own kn,[(k,.avs s' n f)],[(kn,some (.avs s' (n+1) (fun j=>if j < n then f j else g 0))),(k,none)],some kn,n+1≤1000000000∧∀ j,j < n→men noK (f j)=true⟩ else none
   |_=>none
  |.cst v=>if isNilS v then some ⟨.own kn,[],[(kn,some (.avs s 1 (fun _=>g 0)))],some kn,True⟩ else none
  |_=>none) else none
 |_=>none
def Zac : TK→Bool
 |.bool=>true
 |_=>false
def evBuildS (ie:TI) (kn:Nat) (alt:Bool) (n:Nat) (es:List AV):Option EvR :=
 if alt && Zac ie.k && Nat.beq ie.size 1 && Nat.beq n 0 then some ⟨.own kn,[],[(kn,some (.bools []))],some kn,True⟩
 else if allC es ie.size && Nat.beq ie.size 1 && Nat.ble n 1000000 then
  (match collI es with
  |some xs=>match alt with
   |true=>some ⟨.own kn,[],[(kn,some (.ints xs))],some kn,True⟩
   |false=>some ⟨.roI xs,[],[],none,True⟩
  |none=>match collB es with
   |some xs=>some ⟨.roB xs,[],[],none,True⟩
   |none=>match collII es with
    |some xs=>match alt with
     |true=>some ⟨.own kn,[],[(kn,some (.rowsR xs))],some kn,True⟩
     |false=>some ⟨.roII xs,[],[],none,True⟩
    |none=>none) else if allC es ie.size && allN es && es.all isAg && Nat.ble 2 ie.size && Nat.ble ie.size 16 && Nat.ble n 1000000 then (match es with
  |[a]=>some ⟨.ro ie.size n (fun _=>a),[],[],none,True⟩
  |es=>some ⟨.ro ie.size n (fun j=>es.getD j .any),[],[],none,True⟩) else none
def evPick (uc ua ub:AV):Option EvR :=
 match strip uc with
 |.bool p=>match strip ua,strip ub with
  |.bool a,.bool b=>some ⟨.bool (bif p then a else b),[],[],none,gd uc∧(p=true→gd ua)∧(p=false→gd ub)⟩
  |.int .i64 a,.int .i64 b=>some ⟨.int .i64 (bif p then a else b),[],[],none,gd uc∧(p=true→gd ua)∧(p=false→gd ub)⟩
  |_,_=>none
 |_=>none
def evTake (i:TI) (l:List (Nat × Option Blk)) (kn:Nat) (u:AV):Option EvR :=
 match u with
 |.adr k sz ix off=>match lkr l k with
  |some (.rows xs)=>match sz,off,i.isStr with
   |1,0,false=>some ⟨.own kn,[(k,.rows xs)],[(kn,some (.ints (xs.getD ix []))),(k,some (.rowsH xs ix kn))],some kn,ix < xs.length⟩
   |_,_,_=>none
  |_=>none
 |_=>none
def ofP : Evp→Option EvR
 |some (v,rd,ob)=>some ⟨v,rd,[],none,ob⟩
 |none=>none
def evx (tb:Nat→Option TI) (get:Operand→AV) (l:List (Nat × Option Blk)) (kn:Nat) (alt:Bool) (op:Op):Option EvR :=
 match op with
 |.alloc t=>match tb t with
  |some i=>some ⟨.own kn,[],[(kn,some (.box i.zero))],some kn,True⟩
  |none=>none
 |.box t x=>if isC (get x) then (if !alt && men noK (get x) then some ⟨.rop (get x),[],[],none,True⟩ else some ⟨.own kn,[],[(kn,some (.box (get x)))],some kn,True⟩) else none
 |.makeSlice t a c=>match tb t with
  |some i=>match i.k with
   |.slc e=>match tb e with
    |some ie=>match get a,get c with
     |.int .i64 n,.int .i64 n'=>if Nat.ble ie.bytes 1000 && Nat.ble 1 ie.size then (match makeB ie alt n.toNat with
      |some B=>some ⟨.own kn,[],[(kn,some B)],some kn,n'=n∧0≤n∧n≤1000000000⟩
      |none=>none) else none
     |_,_=>none
    |none=>none
   |_=>none
  |none=>none
 |.store t a x=>match tb t with
  |some i=>evStore i l (get a) (get x)
  |none=>none
 |.buildSlice t n parts=>match tb t with
  |some i=>match i.k with
   |.slc e=>match tb e with
    |some ie=>if partsOK n parts then evBuildS ie kn alt n (elemsOf get parts) else none
    |none=>none
   |_=>none
  |none=>none
 |.pick c a b=>evPick (get c) (get a) (get b)
 |.load t a=>match tb t with
  |some i=>match evTake i l kn (get a) with
   |some r=>some r
   |none=>ofP (evLoad i l (get a))
  |none=>none
 |.call c=>match c.callee with
  |.builtin .append=>match c.args.toList,c.argTypes.toList with
   |[x,y],[t,t']=>if Nat.beq t t' then (match tb t with
    |some i=>match i.k with
     |.slc e=>match tb e with
      |some ie=>if Nat.beq ie.size 1 && Nat.ble ie.bytes 100 then evApp l kn (get x) (get y) else if Nat.ble 2 ie.size && Nat.ble ie.bytes 1000 then evAppS ie.size l kn (get x) (get y) else none
      |none=>none
     |_=>none
    |none=>none) else none
   |_,_=>none
  |_=>ofP (evp tb get l (.call c))
 |op=>ofP (evp tb get l op)
open Go
def RdIn (l:List (Nat × Option Blk)) (rd:List (Nat × Blk)):Prop:=∀ p,p∈rd→lkr l p.1=some p.2
theorem Zan {l:List (Nat × Option Blk)}:RdIn l []:=fun p h=>by cases h
theorem Zat {l:List (Nat × Option Blk)} {k:Nat} {b:Blk} (h:lkr l k=some b):RdIn l [(k,b)]:=fun p hp=>by
 simp at hp;subst hp;exact h
theorem Zcp {l:List (Nat × Option Blk)} {k:Nat} {b:Blk} {rd:List (Nat × Blk)} (h:lkr l k=some b) (h2:RdIn l rd):RdIn l ((k,b) :: rd):=fun p hp=>by
 rcases List.mem_cons.1 hp with rfl|hp
 ·exact h
 ·exact h2 p hp
theorem evLoad_rd {i:TI} {l:List (Nat × Option Blk)} {u v:AV} {rd:List (Nat × Blk)} {ob:Prop} (h:evLoad i l u=some (v,rd,ob)):RdIn l rd:=by
 unfold evLoad at h
 (repeat' split at h)<;>first
  |(cases h;done)
  |(simp only [Option.some.injEq,Prod.mk.injEq] at h;obtain ⟨_,rfl,_⟩:=h;first|exact Zan|exact Zat (by assumption))
theorem evField_rd {fs:List (Nat × Nat × Bool)} {f:Nat} {l:List (Nat × Option Blk)} {u v:AV} {rd:List (Nat × Blk)} {ob:Prop} (h:evField fs f l u=some (v,rd,ob)):RdIn l rd:=by
 unfold evField at h
 (repeat' split at h)<;>first
  |(cases h;done)
  |(simp only [Option.some.injEq,Prod.mk.injEq] at h;obtain ⟨_,rfl,_⟩:=h;first|exact Zan|exact Zat (by assumption))
theorem evIndex_rd {sz:Nat} {l:List (Nat × Option Blk)} {u v:AV} {z:Int} {rd:List (Nat × Blk)} {ob:Prop} (h:evIndex sz l u z=some (v,rd,ob)):RdIn l rd:=by
 unfold evIndex at h
 (repeat' split at h)<;>first
  |(cases h;done)
  |(simp only [Option.some.injEq,Prod.mk.injEq] at h;obtain ⟨_,rfl,_⟩:=h;first|exact Zan|exact Zat (by assumption))
theorem lenOf_rd {l:List (Nat × Option Blk)} {u v:AV} {rd:List (Nat × Blk)} {ob:Prop} (h:lenOf l u=some (v,rd,ob)):RdIn l rd:=by
 unfold lenOf at h
 (repeat' split at h)<;>first
  |(cases h;done)
  |(simp only [Option.some.injEq,Prod.mk.injEq] at h;obtain ⟨_,rfl,_⟩:=h;first|exact Zan|exact Zat (by assumption))
theorem evBin_rd {op:BinOp} {u1 u2 v:AV} {l:List (Nat × Option Blk)} {rd:List (Nat × Blk)} {ob:Prop} (h:evBin op u1 u2=some (v,rd,ob)):RdIn l rd:=by
 unfold evBin at h
 split at h<;>first
  |(cases h;done)
  |(simp only [Option.some.injEq,Prod.mk.injEq] at h;obtain ⟨_,rfl,_⟩:=h;exact Zan)
theorem evSlice_rd {u v:AV} {lo:Int} {hi:Option Int} {l:List (Nat × Option Blk)} {rd:List (Nat × Blk)} {ob:Prop} (h:evSlice u lo hi=some (v,rd,ob)):RdIn l rd:=by
 unfold evSlice at h
 split at h<;>first
  |(cases h;done)
  |(simp only [Option.some.injEq,Prod.mk.injEq] at h;obtain ⟨_,rfl,_⟩:=h;exact Zan)
theorem evp_rd {tb:Nat→Option TI} {get:Operand→AV} {l:List (Nat × Option Blk)} {op:Op} {v:AV} {rd:List (Nat × Blk)} {ob:Prop} (h:evp tb get l op=some (v,rd,ob)):RdIn l rd:=by
 unfold evp at h
 (repeat' split at h)<;>first
  |(cases h;done)
  |exact evLoad_rd h
  |exact evField_rd h
  |exact evIndex_rd h
  |exact lenOf_rd h
  |exact evBin_rd h
  |exact evSlice_rd h
  |(simp only [Option.some.injEq,Prod.mk.injEq] at h;obtain ⟨_,rfl,_⟩:=h;first|exact Zan|exact Zat (by assumption))
section
variable {P:Program} {get:Operand→AV} {l:List (Nat × Option Blk)} {tb:Nat→Option TI}
theorem evp_sem (htb:Zdf P tb) (hmz:∀ t i,tb t=some i→men noK i.zero=true) (o:Oper) {v:AV} {rd:List (Nat × Blk)} {ob:Prop} (h:evp tb get l o.op=some (v,rd,ob)) (hob:ob):OpSem P o get v rd [] none :=
 Zdb fun K Z ν w ev μ rs h1 hg hx hrd=>evp_ok htb hmz o h1 hg hx h hob hrd
structure EvOK (P:Program) (o:Oper) (get:Operand→AV) (l:List (Nat × Option Blk)) (kn:Nat) (r:EvR):Prop where
 sem:OpSem P o get r.val r.rd r.wr r.kn
 rd:RdIn l r.rd
 kn:r.kn=none∨r.kn=some kn
theorem ofP_ok {o:Oper} {e:Evp} {r:EvR} {kn:Nat} (h:ofP e=some r) (hob:r.ob) (hs:∀ v rd ob,e=some (v,rd,ob)→ob→OpSem P o get v rd [] none) (hrd:∀ v rd ob,e=some (v,rd,ob)→RdIn l rd):EvOK P o get l kn r:=by
 unfold ofP at h
 split at h
 ·simp only [Option.some.injEq] at h
  subst h
  exact ⟨hs _ _ _ rfl hob,hrd _ _ _ rfl,.inl rfl⟩
 ·cases h
theorem stBox_ok {o:Oper} {t k off kn:Nat} {i:TI} {a x:Operand} {u:AV} {r:EvR} (ho:o.op=.store t a x) (ht:TOK P t i) (ha:(get a=.own k∧off=0)∨get a=.adr k 0 0 off) (hk:lkr l k=some (.box u)) (h:stBox i k u off (get x)=some r):EvOK P o get l kn r:=by
 unfold stBox at h
 split at h
 ·rename_i hc
  simp only [Option.some.injEq] at h
  subst h
  simp only [Bool.and_eq_true,Nat.ble_eq] at hc
  obtain ⟨⟨⟨⟨⟨⟨⟨c1,c2⟩,c3⟩,c4⟩,c5⟩,c6⟩,c7⟩,c8⟩:=hc
  refine ⟨opsem_store_box ho ht ha c1 c2 (Nat.eq_of_beq_eq_true c3) (by omega) c5 c6 c7 (fun hu=>?_),Zat hk,.inl rfl⟩
  rw [hu] at c8
  simpa using c8
 ·cases h
theorem evStore_ok {o:Oper} {t kn:Nat} {i:TI} {a x:Operand} {r:EvR} (ho:o.op=.store t a x) (ht:TOK P t i) (h:evStore i l (get a) (get x)=some r) (hob:r.ob):EvOK P o get l kn r:=by
 unfold evStore at h
 split at h
 ·rename_i k ha
  split at h
  ·rename_i u hk
   exact stBox_ok ho ht (.inl ⟨ha,rfl⟩) hk h
  ·cases h
 ·rename_i k sz ix off ha
  split at h
  ·rename_i u hk
   split at h
   ·exact stBox_ok ho ht (.inr ha) hk h
   ·cases h
  ·rename_i xs hk
   split at h
   ·rename_i n hsz hx
    simp only [Option.some.injEq] at h
    subst h
    exact ⟨opsem_store_ints ho ht hsz ha hx hob,Zat hk,.inl rfl⟩
   ·cases h
  ·rename_i xs hk
   split at h
   ·rename_i n hsz hx
    simp only [Option.some.injEq] at h
    subst h
    exact ⟨opsem_store_bools ho ht hsz ha hx hob,Zat hk,.inl rfl⟩
   ·cases h
  ·rename_i xs hk
   split at h
   ·rename_i n hsz hx
    simp only [Option.some.injEq] at h
    subst h
    exact ⟨opsem_store_rowsR ho ht hsz ha hx hob,Zat hk,.inl rfl⟩
   ·cases h
  ·rename_i xs ih k1 hk
   split at h
   ·rename_i k2 hsz hx
    split at h
    ·rename_i zs hk2
     split at h
     ·cases h
     ·rename_i hne
      simp only [Option.some.injEq] at h
      subst h
      obtain ⟨rfl,hix⟩:=hob
      exact ⟨opsem_put ho ht hsz ha hx hix (by cases hb:Nat.beq k k2 with|false=>rfl|true=>exact absurd hb hne),Zcp hk (Zat hk2),.inl rfl⟩
    ·cases h
   ·cases h
  ·rename_i s n f hk
   split at h
   ·rename_i hc
    simp only [Option.some.injEq] at h
    subst h
    simp only [Bool.and_eq_true,Nat.ble_eq] at hc
    obtain ⟨⟨⟨⟨⟨c0,c1⟩,c2⟩,c3⟩,c4⟩,c5⟩:=hc
    have c0:=Nat.eq_of_beq_eq_true c0
    subst c0
    obtain ⟨o1,o2,o3,o4,o5⟩:=hob
    exact ⟨opsem_store_avs ho ht ha c1 c2 (Nat.eq_of_beq_eq_true c3) (by omega) o1 o2 o3 o4 c5 (fun hu=>by rw [hu] at o5;simpa using o5),Zat hk,.inl rfl⟩
   ·cases h
  ·cases h
 ·cases h
theorem Zi6 {v:Value} (h:isNilS v=true):v=.slice none 0 0:=by
 unfold isNilS at h
 split at h
 ·rfl
 ·cases h
theorem Zji {u:AV} {ys:List Int} {rd rd':List (Nat × Blk)} (h:srcI l u=some (ys,rd)) (hsub:∀ p,p∈rd→p∈rd'):Zg2 rd' u 1 ys.length (fun _ _ _=>Zdp ys)∧RdIn l rd:=by
 unfold srcI at h
 split at h
 ·simp only [Option.some.injEq,Prod.mk.injEq] at h;obtain ⟨rfl,rfl⟩:=h;exact ⟨src_roI,Zan⟩
 ·split at h
  ·rename_i hk
   simp only [Option.some.injEq,Prod.mk.injEq] at h;obtain ⟨rfl,rfl⟩:=h;exact ⟨src_own (hsub _ (by simp)),Zat hk⟩
  ·cases h
 ·cases h
theorem Zjj {u:AV} {ys:List Bool} {rd rd':List (Nat × Blk)} (h:srcB l u=some (ys,rd)) (hsub:∀ p,p∈rd→p∈rd'):Zg2 rd' u 1 ys.length (fun _ _ _=>Zd0 ys)∧RdIn l rd:=by
 unfold srcB at h
 split at h
 ·simp only [Option.some.injEq,Prod.mk.injEq] at h;obtain ⟨rfl,rfl⟩:=h;exact ⟨src_roB,Zan⟩
 ·split at h
  ·rename_i hk
   simp only [Option.some.injEq,Prod.mk.injEq] at h;obtain ⟨rfl,rfl⟩:=h;exact ⟨src_ownB (hsub _ (by simp)),Zat hk⟩
  ·cases h
 ·cases h
theorem Zmd {u:AV} {ys:List (List Int)} {rd rd':List (Nat × Blk)} (h:srcR l u=some (ys,rd)) (hsub:∀ p,p∈rd→p∈rd'):Zg2 rd' u 1 ys.length (fun Z w ν j es=>R Z w (.roI (ys.getD j [])) ν false es)∧RdIn l rd:=by
 unfold srcR at h
 split at h
 ·simp only [Option.some.injEq,Prod.mk.injEq] at h;obtain ⟨rfl,rfl⟩:=h;exact ⟨src_roII,Zan⟩
 ·split at h
  ·rename_i hk
   simp only [Option.some.injEq,Prod.mk.injEq] at h;obtain ⟨rfl,rfl⟩:=h;exact ⟨src_ownR (hsub _ (by simp)),Zat hk⟩
  ·cases h
 ·cases h
theorem evApp_ok {o:Oper} {t e kn:Nat} {i ie:TI} {x y:Operand} {r:EvR} (ho:o.op=.call ⟨.builtin .append,#[x,y],#[t,t]⟩) (ht:TOK P t i) (hk:i.k=.slc e) (he:TOK P e ie) (hsz:ie.size=1) (hby:ie.bytes≤100) (h:evApp l kn (get x) (get y)=some r) (hob:r.ob):EvOK P o get l kn r:=by
 unfold evApp at h
 split at h
 ·rename_i k hx
  split at h
  ·rename_i xs hk0
   split at h
   ·rename_i ys rd hs
    simp only [Option.some.injEq] at h
    subst h
    obtain ⟨s1,s2⟩:=Zji (rd':=(k,.ints xs) :: rd) hs (fun p hp=>List.mem_cons_of_mem _ hp)
    exact ⟨opsem_append_ints (k0:=some k) ho ht hk he hsz hob hby kn hx (fun k' e=>by cases e;simp) (fun e=>by cases e) s1,Zcp hk0 s2,.inr rfl⟩
   ·cases h
  ·rename_i xs hk0
   split at h
   ·rename_i ys rd hs
    simp only [Option.some.injEq] at h
    subst h
    obtain ⟨s1,s2⟩:=Zjj (rd':=(k,.bools xs) :: rd) hs (fun p hp=>List.mem_cons_of_mem _ hp)
    exact ⟨opsem_append_bools (k0:=some k) ho ht hk he hsz hob hby kn hx (fun k' e=>by cases e;simp) (fun e=>by cases e) s1,Zcp hk0 s2,.inr rfl⟩
   ·cases h
  ·rename_i xs hk0
   split at h
   ·rename_i ys rd hs
    simp only [Option.some.injEq] at h
    subst h
    obtain ⟨s1,s2⟩:=Zmd (rd':=(k,.rowsR xs) :: rd) hs (fun p hp=>List.mem_cons_of_mem _ hp)
    exact ⟨opsem_append_rowsR (k0:=some k) ho ht hk he hsz hob hby kn hx (fun k' e=>by cases e;simp) (fun e=>by cases e) s1,Zcp hk0 s2,.inr rfl⟩
   ·cases h
  ·cases h
 ·rename_i v hx
  split at h
  ·rename_i hn
   have hv:=Zi6 hn
   subst hv
   split at h
   ·rename_i ys rd hs
    simp only [Option.some.injEq] at h
    subst h
    obtain ⟨s1,s2⟩:=Zji (rd':=rd) hs (fun p hp=>hp)
    exact ⟨opsem_append_ints (k0:=none) (xs:=[]) ho ht hk he hsz (by simpa using hob) hby kn hx (fun k' e=>by cases e) (fun _=>rfl) s1,s2,.inr rfl⟩
   ·split at h
    ·rename_i ys rd hs
     simp only [Option.some.injEq] at h
     subst h
     obtain ⟨s1,s2⟩:=Zjj (rd':=rd) hs (fun p hp=>hp)
     exact ⟨opsem_append_bools (k0:=none) (xs:=[]) ho ht hk he hsz (by simpa using hob) hby kn hx (fun k' e=>by cases e) (fun _=>rfl) s1,s2,.inr rfl⟩
    ·split at h
     ·rename_i ys rd hs
      simp only [Option.some.injEq] at h
      subst h
      obtain ⟨s1,s2⟩:=Zmd (rd':=rd) hs (fun p hp=>hp)
      exact ⟨opsem_append_rowsR (k0:=none) (xs:=[]) ho ht hk he hsz (by simpa using hob) hby kn hx (fun k' e=>by cases e) (fun _=>rfl) s1,s2,.inr rfl⟩
     ·cases h
  ·cases h
 ·cases h
theorem evAppS_ok {o:Oper} {t e kn:Nat} {i ie:TI} {x y:Operand} {r:EvR} (ho:o.op=.call ⟨.builtin .append,#[x,y],#[t,t]⟩) (ht:TOK P t i) (hk:i.k=.slc e) (he:TOK P e ie) (hsz:2≤ie.size) (hby:ie.bytes≤1000) (h:evAppS ie.size l kn (get x) (get y)=some r) (hob:r.ob):EvOK P o get l kn r:=by
 unfold evAppS at h
 split at h
 ·rename_i s g hy
  split at h
  ·rename_i hc
   simp only [Bool.and_eq_true] at hc
   obtain ⟨⟨⟨c0,c1⟩,c2⟩,c3⟩:=hc
   have c0:=Nat.eq_of_beq_eq_true c0
   subst c0
   have hs:∀ rd,Zg2 rd (get y) ie.size 1 (fun Z w _ _ es=>R Z w (g 0) nu0 false es):=fun rd=>by rw [hy];exact src_one c1 c2
   split at h
   ·rename_i k hx
    split at h
    ·rename_i s' n f hk0
     split at h
     ·rename_i hc'
      have hc':=Nat.eq_of_beq_eq_true hc'
      subst hc'
      simp only [Option.some.injEq] at h
      subst h
      exact ⟨opsem_append_avs (k0:=some k) ho ht hk he rfl (by omega) hob.1 hby kn hx (fun k' e=>by cases e;simp) (fun e=>by cases e) hob.2 c3 (hs _),Zat hk0,.inr rfl⟩
     ·cases h
    ·cases h
   ·rename_i v hx
    split at h
    ·rename_i hn
     have hv:=Zi6 hn
     subst hv
     simp only [Option.some.injEq] at h
     subst h
     have:=opsem_append_avs (k0:=none) (rd:=[]) (n:=0) (f:=fun _=>g 0) ho ht hk he rfl (by omega) (by omega) hby kn hx (fun k' e=>by cases e) (fun _=>rfl) (fun j hj=>absurd hj (Nat.not_lt_zero j)) c3 (hs _)
     exact ⟨this,Zan,.inr rfl⟩
    ·cases h
   ·cases h
  ·cases h
 ·cases h
theorem evBuildS_ok {o:Oper} {t e n kn:Nat} {i ie:TI} {parts:Array (Nat × Operand)} {alt:Bool} {r:EvR} (ho:o.op=.buildSlice t n parts) (ht:TOK P t i) (hk:i.k=.slc e) (he:TOK P e ie) (hp:partsOK n parts=true) (h:evBuildS ie kn alt n (elemsOf get parts)=some r):EvOK P o get l kn r:=by
 unfold evBuildS at h
 split at h
 ·rename_i hc
  simp only [Bool.and_eq_true] at hc
  obtain ⟨⟨_,c2⟩,c3⟩:=hc
  have c2:=Nat.eq_of_beq_eq_true c2
  have c3:=Nat.eq_of_beq_eq_true c3
  subst c3
  have hnl:(elemsOf get parts).length=0:=by
   simp only [partsOK,Bool.and_eq_true] at hp
   have:=Nat.eq_of_beq_eq_true hp.1
   simpa [elemsOf] using this
  have he0:elemsOf get parts=[]:=List.eq_nil_of_length_eq_zero hnl
  simp only [Option.some.injEq] at h
  subst h
  exact ⟨Zge ho ht hk he hp (by rw [he0];rfl) (by omega) (by omega) kn (fun Z w ν y F hr=>Za3 (fun _ _=>rfl) (fun j es hj _=>absurd hj (Nat.not_lt_zero j)) (by rw [c2] at hr;exact hr)) (fun _ _=>trivial),Zan,.inr rfl⟩
 split at h
 ·rename_i hc
  simp only [Bool.and_eq_true,Nat.ble_eq] at hc
  obtain ⟨⟨c1,c2⟩,c3⟩:=hc
  have c2:=Nat.eq_of_beq_eq_true c2
  have hnl:n=(elemsOf get parts).length:=by
   simp only [partsOK,Bool.and_eq_true] at hp
   have:=Nat.eq_of_beq_eq_true hp.1
   simpa [elemsOf] using this.symm
  have hlim:n * ie.size≤16777216:=by rw [c2];omega
  split at h
  ·rename_i xs hx
   split at h
   ·simp only [Option.some.injEq] at h
    subst h
    exact ⟨Zge ho ht hk he hp c1 (by omega) hlim kn (by rw [c2];exact build_ints hx hnl) (fun _ _=>trivial),Zan,.inr rfl⟩
   ·simp only [Option.some.injEq] at h
    subst h
    refine ⟨Zef ho ht hk he hp c1 ?_ (by omega) hlim (by rw [c2];exact build_roI hx hnl) rfl,Zan,.inl rfl⟩
    rw [Zi8 hx];simp [allN,men]
  ·split at h
   ·rename_i xs hx
    simp only [Option.some.injEq] at h
    subst h
    refine ⟨Zef ho ht hk he hp c1 ?_ (by omega) hlim (by rw [c2];exact build_roB hx hnl) rfl,Zan,.inl rfl⟩
    rw [Zlg hx];simp [allN,men]
   ·split at h
    ·rename_i xs hx
     split at h
     ·simp only [Option.some.injEq] at h
      subst h
      exact ⟨Zge ho ht hk he hp c1 (by omega) hlim kn (by rw [c2];exact build_rowsR hx hnl) (fun _ _=>trivial),Zan,.inr rfl⟩
     ·simp only [Option.some.injEq] at h
      subst h
      refine ⟨Zef ho ht hk he hp c1 ?_ (by omega) hlim (by rw [c2];exact build_roII hx hnl) rfl,Zan,.inl rfl⟩
      rw [Zh3 hx];simp [allN,men]
    ·cases h
 ·split at h
  ·rename_i hc
   simp only [Bool.and_eq_true,Nat.ble_eq] at hc
   obtain ⟨⟨⟨⟨⟨c1,c2⟩,c3⟩,c4⟩,c5⟩,c6⟩:=hc
   have hnl:n=(elemsOf get parts).length:=by
    simp only [partsOK,Bool.and_eq_true] at hp
    have:=Nat.eq_of_beq_eq_true hp.1
    simpa [elemsOf] using this.symm
   have hlim:n * ie.size≤1000000 * 16:=Nat.mul_le_mul c6 c5
   split at h
   ·rename_i a hes
    simp only [Option.some.injEq] at h
    subst h
    exact ⟨Zef ho ht hk he hp c1 c2 (by omega) (by omega) (build_ro1 hes c3 hnl) rfl,Zan,.inl rfl⟩
   ·simp only [Option.some.injEq] at h
    subst h
    exact ⟨Zef ho ht hk he hp c1 c2 (by omega) (by omega) (build_ro c3 hnl) rfl,Zan,.inl rfl⟩
  ·cases h
theorem Zkk {Z:Nat→Prop} {w:World} {ν:Nat→Value} {u:AV} {cs:List Value} (hg:gd u) (h:R Z w u ν true cs):R Z w (strip u) ν true cs:=by
 cases u<;>first|exact h|exact h.1 hg
theorem strip_men {μ:Nat→Bool} {u:AV} (hg:gd u) (h:men μ u=true):men μ (strip u)=true:=by
 cases u<;>first|exact h|(rename_i g _;cases g with
  |true=>exact h
  |false=>cases hg)
theorem evPick_ok {o:Oper} {kn:Nat} {c a b:Operand} {r:EvR} (ho:o.op=.pick c a b) (h:evPick (get c) (get a) (get b)=some r) (hob:r.ob):EvOK P o get l kn r:=by
 have key:∀ (p:Bool) (v:AV),strip (get c)=.bool p→gd (get c)→(p=true→gd (get a))→(p=false→gd (get b))→(∀ (Z:Nat→Prop) (w:World) (ν:Nat→Value) (y:Value),R Z w (if p then strip (get a) else strip (get b)) ν true [y]→R Z w v ν true [y])→(∀ μ,men μ v=true)→OpSem P o get v [] [] none:=by
  intro p v hc g1 g2 g3 hv hm
  refine Zdb fun K Z ν w ev μ rs h1 hg hx hrd=>?_
  have r1:=Zkk g1 (hx c (by rw [ho];simp [Op.operands])).1
  rw [hc] at r1
  have e1:=one1 r1
  have ra:=hx a (by rw [ho];simp [Op.operands])
  have rb:=hx b (by rw [ho];simp [Op.operands])
  refine ⟨if p then ev a else ev b,by simp [execOp,ho,e1,asBool,Sem.run_bind,Result.andThen,Sem.run],hv Z w ν _ ?_,hm μ⟩
  cases p
  ·exact Zkk (g3 rfl) rb.1
  ·exact Zkk (g2 rfl) ra.1
 unfold evPick at h
 split at h
 ·rename_i p hc
  split at h
  ·rename_i x y hx hy
   simp only [Option.some.injEq] at h
   subst h
   refine ⟨key p _ hc hob.1 hob.2.1 hob.2.2 (fun Z w ν v hr=>?_) (fun _=>rfl),Zan,.inl rfl⟩
   rw [hx,hy] at hr
   cases p<;>exact hr
  ·rename_i x y hx hy
   simp only [Option.some.injEq] at h
   subst h
   refine ⟨key p _ hc hob.1 hob.2.1 hob.2.2 (fun Z w ν v hr=>?_) (fun _=>rfl),Zan,.inl rfl⟩
   rw [hx,hy] at hr
   cases p<;>exact hr
  ·cases h
 ·cases h
theorem evTake_ok {o:Oper} {t kn:Nat} {i:TI} {a:Operand} {r:EvR} (ho:o.op=.load t a) (ht:TOK P t i) (h:evTake i l kn (get a)=some r) (hob:r.ob):EvOK P o get l kn r:=by
 unfold evTake at h
 split at h
 ·rename_i k sz ix off ha
  split at h
  ·rename_i xs hk
   split at h
   ·rename_i hs
    simp only [Option.some.injEq] at h
    subst h
    exact ⟨opsem_take ho ht hs ha hob kn,Zat hk,.inr rfl⟩
   ·cases h
  ·cases h
 ·cases h
theorem Zn6 (htb:Zdf P tb) (hmz:∀ t i,tb t=some i→men noK i.zero=true) (o:Oper) {kn:Nat} {alt:Bool} {r:EvR} (h:evx tb get l kn alt o.op=some r) (hob:r.ob):EvOK P o get l kn r:=by
 have hp:∀ {e:Evp},e=evp tb get l o.op→ofP e=some r→EvOK P o get l kn r:=by
  intro e he h
  subst he
  exact ofP_ok h hob (fun v rd ob he h'=>evp_sem htb hmz o he h') (fun v rd ob he=>evp_rd he)
 unfold evx at h
 split at h
 case h_1 t ho =>
  split at h
  ·rename_i i ht
   simp only [Option.some.injEq] at h
   subst h
   exact ⟨opsem_alloc ho (htb t i ht) (hmz t i ht) kn,Zan,.inr rfl⟩
  ·cases h
 case h_2 t x ho =>
  split at h
  ·rename_i hc
   split at h
   ·rename_i ha
    simp only [Option.some.injEq] at h
    subst h
    simp only [Bool.and_eq_true] at ha
    exact ⟨opsem_boxR ho hc ha.2,Zan,.inl rfl⟩
   ·simp only [Option.some.injEq] at h
    subst h
    exact ⟨opsem_box ho hc kn,Zan,.inr rfl⟩
  ·cases h
 case h_3 t a c ho =>
  split at h
  ·rename_i i ht
   split at h
   ·rename_i e hk
    split at h
    ·rename_i ie he
     split at h
     ·rename_i n n' hga hgc
      split at h
      ·rename_i hc
       simp only [Bool.and_eq_true,Nat.ble_eq] at hc
       split at h
       ·rename_i B hB
        simp only [Option.some.injEq] at h
        subst h
        obtain ⟨rfl,o2,o3⟩:=hob
        have hz:=hmz e ie he
        have mk:=fun {B:Blk}=>opsem_make (get:=get) (B:=B) ho (htb t i ht) hk (htb e ie he) hga hgc o2 o3 hc.1 (by omega) kn
        refine ⟨?_,Zan,.inr rfl⟩
        unfold makeB at hB
        split at hB
        ·rename_i z hzz
         split at hB
         ·rename_i z0
          subst z0
          split at hB
          ·rename_i hs
           simp only [Option.some.injEq] at hB
           subst hB
           exact mk (make_ints hzz (Nat.eq_of_beq_eq_true hs)) (fun _=>trivial)
          ·cases hB
         ·cases hB
        ·rename_i b hzz
         split at hB
         ·split at hB
          ·rename_i hs
           simp only [Option.some.injEq] at hB
           subst hB
           exact mk (make_bools hzz (Nat.eq_of_beq_eq_true hs)) (fun _=>trivial)
          ·cases hB
         ·cases hB
        ·rename_i v hzz
         split at hB
         ·rename_i hn
          simp only [Bool.and_eq_true] at hn
          have hv:=Zi6 hn.1
          subst hv
          split at hB
          ·simp only [Option.some.injEq] at hB
           subst hB
           exact mk (make_rowsR hzz (Nat.eq_of_beq_eq_true hn.2)) (fun _=>trivial)
          ·simp only [Option.some.injEq] at hB
           subst hB
           exact mk (make_rows hzz (Nat.eq_of_beq_eq_true hn.2)) (fun _=>trivial)
         ·cases hB
        ·rename_i lz hzz
         simp only [Option.some.injEq] at hB
         subst hB
         rw [←hzz]
         exact mk make_avs (fun μ j _=>Zce hz)
        ·cases hB
       ·cases h
      ·cases h
     ·cases h
    ·cases h
   ·cases h
  ·cases h
 case h_4 t a x ho =>
  split at h
  ·rename_i i ht
   exact evStore_ok ho (htb t i ht) h hob
  ·cases h
 case h_5 t n parts ho =>
  split at h
  ·rename_i i ht
   split at h
   ·rename_i e hk
    split at h
    ·rename_i ie he
     split at h
     ·rename_i hpp
      exact evBuildS_ok ho (htb t i ht) hk (htb e ie he) hpp h
     ·cases h
    ·cases h
   ·cases h
  ·cases h
 case h_6 c a b ho=>exact evPick_ok ho h hob
 case h_7 t a ho =>
  split at h
  ·rename_i i ht
   split at h
   ·rename_i r' hr
    simp only [Option.some.injEq] at h
    subst h
    exact evTake_ok ho (htb t i ht) hr hob
   ·exact hp (by rw [ho];simp only [evp,ht]) h
  ·cases h
 case h_8 c ho =>
  split at h
  ·rename_i hcal
   split at h
   ·rename_i x y t t' hargs hts
    split at h
    ·rename_i htt
     have htt:=Nat.eq_of_beq_eq_true htt
     subst htt
     split at h
     ·rename_i i ht
      split at h
      ·rename_i e hk
       split at h
       ·rename_i ie he
        split at h
        ·rename_i hc
         simp only [Bool.and_eq_true,Nat.ble_eq] at hc
         have hceq:o.op=.call ⟨.builtin .append,#[x,y],#[t,t]⟩:=by
          rw [ho]
          congr 1
          obtain ⟨cal,args,ats⟩:=c
          simp only at hcal hargs hts
          subst hcal
          congr
          ·apply Array.ext';simpa using hargs
          ·apply Array.ext';simpa using hts
         exact evApp_ok hceq (htb t i ht) hk (htb e ie he) (Nat.eq_of_beq_eq_true hc.1) hc.2 h hob
        ·split at h
         ·rename_i hc
          simp only [Bool.and_eq_true,Nat.ble_eq] at hc
          have hceq:o.op=.call ⟨.builtin .append,#[x,y],#[t,t]⟩:=by
           rw [ho]
           congr 1
           obtain ⟨cal,args,ats⟩:=c
           simp only at hcal hargs hts
           subst hcal
           congr
           ·apply Array.ext';simpa using hargs
           ·apply Array.ext';simpa using hts
          exact evAppS_ok hceq (htb t i ht) hk (htb e ie he) hc.1 hc.2 h hob
         ·cases h
       ·cases h
      ·cases h
     ·cases h
    ·cases h
   ·cases h
  ·exact hp (by rw [ho]) h
 case h_9=>exact hp rfl h
end
open Go
def ltK (κ:Nat):Nat→Bool:=fun k=>Nat.blt k κ
def mkL : List AV→AV
 |[]=>.nil
 |h :: t=>.cons h (mkL t)
def lsOf : AV→List AV
 |.cons h t=>h :: lsOf t
 |_=>[]
def Zo8 (P:Program) (f:Nat) (κ:Nat) (args:List AV) (rin:Rs) (Q:AV→(Nat→Bool)→Rs→Prop):Prop :=
 ∀ (K Z:Nat→Prop) (ν:Nat→Value) (w:World) (vals:Array Value),(∀ k,(ν k).oneCell'=true)→R Z w (mkL args) ν true vals.toList→men (ltK κ) (mkL args)=true→GoodRs K Z w ν (ltK κ) rin→(∀ b,Z b→K b)→(∀ b,K b→b < w.heap.size) →
  Calls P f vals w fun e w'=>∃ (y:Value) (Z':Nat→Prop) (ν':Nat→Value) (v:AV) (μ':Nat→Bool) (rs':Rs),e=.returned y∧Step K Z w Z' w'∧(∀ k,(ν' k).oneCell'=true)∧(∀ k,k < κ→ν' k=ν k)∧(∀ k,k < κ→μ' k=true) ∧
   R Z' w' v ν' true [y]∧men μ' v=true∧GoodRs (un K Z') Z' w' ν' μ' rs'∧(∀ b,Z' b→b < w'.heap.size)∧Q v μ' rs'
def FCallP (P:Program) (f:Nat) (κ:Nat) (args:List AV) (rin:Rs) (E:List PanicEntry→Prop) (Q:AV→(Nat→Bool)→Rs→Prop):Prop :=
 ∀ (K Z:Nat→Prop) (ν:Nat→Value) (w:World) (vals:Array Value),(∀ k,(ν k).oneCell'=true)→R Z w (mkL args) ν true vals.toList→men (ltK κ) (mkL args)=true→GoodRs K Z w ν (ltK κ) rin→(∀ b,Z b→K b)→(∀ b,K b→b < w.heap.size) →
  Calls P f vals w fun e w'=>(∃ (y:Value) (Z':Nat→Prop) (ν':Nat→Value) (v:AV) (μ':Nat→Bool) (rs':Rs),e=.returned y∧Step K Z w Z' w'∧(∀ k,(ν' k).oneCell'=true)∧(∀ k,k < κ→ν' k=ν k)∧(∀ k,k < κ→μ' k=true) ∧
   R Z' w' v ν' true [y]∧men μ' v=true∧GoodRs (un K Z') Z' w' ν' μ' rs'∧(∀ b,Z' b→b < w'.heap.size)∧Q v μ' rs')∨∃ c,E c∧e=.panicked c∧Step K Z w Z w'
structure SR where
 ob:Prop
 val:AV
 wr:Option Blk
abbrev Spec := List AV→Option SR
def Plain (P : Program) (f : Nat) : Prop := ∃ fn, P.funcs[f]? = some fn ∧ (fn.name == "runtime.NumGoroutine") = false ∧ fn.body.isNone = false
def Zop : Blk→Prop
 |.avs _ n f=>∀ j,j < n→men noK (f j)=true
 |_=>True
def Zcn (P:Program) (f:Nat) (S:Spec):Prop :=
 Plain P f∧∀ args r,S args=some r→r.ob→men noK (mkL args)=true→Zo8 P f 0 args (fun _=>none) fun v μ rs=>v=r.val∧∀ B,r.wr=some B→μ 0=true∧rs 0=some B∧Zop B
/-! ### What is lent to a call -/
def zfree : AV→Bool
 |.roI _=>false
 |.roB _=>false
 |.roII _=>false
 |.ro _ _ _=>false
 |.rop _=>false
 |.agg l=>zfree l
 |.tup l=>zfree l
 |.cons h t=>zfree h && zfree t
 |.fn _ c=>zfree c
 |.whn _ u=>zfree u
 |_=>true
def zfreeB : Blk→Bool
 |.ints _=>true
 |.bools _=>true
 |.rows _=>true
 |_=>false
def freeB : Blk→Bool
 |.ints _=>true
 |.bools _=>true
 |.rows _=>true
 |.rowsR _=>true
 |.avs _ _ _=>true
 |_=>false
theorem R_zfree {Z Z':Nat→Prop} {w:World}:∀ {u:AV} {ν:Nat→Value} {m:Bool} {cs:List Value},zfree u=true→R Z w u ν m cs→R Z' w u ν m cs:=by
 intro u
 induction u with
 |agg l ih=>intro ν m cs hz h;cases m with
  |true=>obtain ⟨es,e,r⟩:=h;exact ⟨es,e,ih hz r⟩
  |false=>exact ih (m:=true) hz h
 |tup l ih=>intro ν m cs hz h;obtain ⟨es,e,r⟩:=h;exact ⟨es,e,ih hz r⟩
 |cons a b ih1 ih2=>intro ν m cs hz h;simp only [zfree,Bool.and_eq_true] at hz;obtain ⟨v,vs,e,r1,r2⟩:=h;exact ⟨v,vs,e,ih1 hz.1 r1,ih2 hz.2 r2⟩
 |fn f c ih=>intro ν m cs hz h;obtain ⟨vs,e,r⟩:=h;exact ⟨vs,e,ih hz r⟩
 |whn g u ih=>intro ν m cs hz h;exact ⟨fun hg=>ih hz (h.1 hg),h.2⟩
 |roI _=>intro ν m cs hz;cases hz
 |roB _=>intro ν m cs hz;cases hz
 |roII _=>intro ν m cs hz;cases hz
 |ro _ _ _ _=>intro ν m cs hz;cases hz
 |rop _ _=>intro ν m cs hz;cases hz
 |_=>intro ν m cs hz h;exact h
theorem sat_zfree {Z Z':Nat→Prop} {w:World} {ν:Nat→Value} {x:Value} {F:Nat→Prop} {B:Blk} (hz:zfreeB B=true) (h:sat Z w ν x F B):sat Z' w ν x F B:=by
 cases B<;>first|exact h|cases hz
def anyL : Nat→AV
 |0=>.nil
 |n+1=>.cons .any (anyL n)
def gua (sz:Nat) (u:AV):AV:=match men noK u with|true=>u|false=>.agg (anyL sz)
theorem Zm0 {Z:Nat→Prop} {w:World} {ν:Nat→Value}:∀ {n:Nat} {cs:List Value},cs.length=n→R Z w (anyL n) ν true cs∧men noK (anyL n)=true
 |0,[],_=>⟨rfl,rfl⟩
 |n+1,v :: vs,h=>by
  obtain ⟨h1,h2⟩:=Zm0 (Z:=Z) (w:=w) (ν:=ν) (n:=n) (cs:=vs) (by simpa using h)
  exact ⟨⟨v,vs,rfl,⟨v,rfl⟩,h1⟩,by show (men noK .any && men noK (anyL n))=true;rw [h2];rfl⟩
theorem gua_ok {Z Zc:Nat→Prop} (hZ:∀ b,Z b→Zc b) {w:World} {ν:Nat→Value} {sz:Nat} {u:AV} {cs:List Value} (hl:cs.length=sz) (h:R Z w u ν false cs):men noK (gua sz u)=true∧R Zc w (gua sz u) nu0 false cs:=by
 unfold gua
 cases hm:men noK u with
 |true=>exact ⟨hm,Zdi hm (Zbc hZ (fun _ _=>rfl) h)⟩
 |false=>exact ⟨(Zm0 (Z:=Zc) (w:=w) (ν:=nu0) hl).2,(Zm0 hl).1⟩
def viewA (l:List (Nat × Option Blk)):AV→Option (AV × List (Nat × Blk))
 |.own k=>match lkr l k with
  |some (.ints xs)=>some (.roI xs,[(k,.ints xs)])
  |some (.bools xs)=>some (.roB xs,[(k,.bools xs)])
  |some (.rowsR xs)=>some (.roII xs,[(k,.rowsR xs)])
  |some (.avs sz n f)=>some (.ro sz n (fun j=>gua sz (f j)),[(k,.avs sz n f)])
  |_=>none
 |.agg a=>match viewA l a with
  |some (a',rd)=>some (.agg a',rd)
  |none=>none
 |.cons a b=>match viewA l a with
  |some (a',rd)=>match viewA l b with
   |some (b',rd')=>some (.cons a' b',rd++rd')
   |none=>none
  |none=>none
 |.nil=>some (.nil,[])
 |u=>if men noK u then some (u,[]) else none
theorem Zfo {Z:Nat→Prop} {w:World} {x:Value} {sz n:Nat} {g:Nat→List Value→Prop} {F:Nat→Prop} (h:row w x sz n g F) (hF:∀ y,F y→Z y):Zfp Z w sz n g [x]:=by
 rcases h with ⟨h0,h1,_⟩|⟨b,o,cap,cells,T,hx,h1,h2,hh,_,hFb,hc⟩
 ·subst h1;exact ⟨none,0,by rw [h0],Nat.le_refl _,Nat.zero_le _,fun h=>absurd h (Nat.lt_irrefl 0)⟩
 ·exact ⟨_,cap,by rw [hx],h1,h2,fun hn=>⟨b,o,rfl,hF b ((hFb b).2 rfl),fun j hj=>by
   obtain ⟨es,e1,e2,e3⟩:=hc j hj
   exact ⟨es,e1,e2,fun i c hi=>Zey hh (e3 i c hi)⟩⟩⟩
theorem view_ok {l:List (Nat × Option Blk)} {Z Zc:Nat→Prop} {w:World} {ν:Nat→Value} {rs:Rs} {Ft:Nat→Nat→Prop} (hZ:∀ b,Z b→Zc b) (hs:∀ k b,rs k=some b→sat Z w ν (ν k) (Ft k) b) :
  ∀ {u u':AV} {rd:List (Nat × Blk)} {m:Bool} {cs:List Value},viewA l u=some (u',rd)→(∀ p,p∈rd→rs p.1=some p.2)→(∀ p,p∈rd→∀ y,Ft p.1 y→Zc y)→R Z w u ν m cs→R Zc w u' nu0 m cs∧men noK u'=true∧RdIn l rd:=by
 intro u
 have plain:∀ {u u':AV} {rd:List (Nat × Blk)} {m:Bool} {cs:List Value},(if men noK u then some (u,[]) else none)=some (u',rd)→R Z w u ν m cs→R Zc w u' nu0 m cs∧men noK u'=true∧RdIn l rd:=by
  intro u u' rd m cs h hr
  split at h
  ·rename_i hm
   simp only [Option.some.injEq,Prod.mk.injEq] at h
   obtain ⟨rfl,rfl⟩:=h
   exact ⟨Zdi hm (Zbc hZ (fun _ _=>rfl) hr),hm,Zan⟩
  ·cases h
 induction u with
 |own k =>
  intro u' rd m cs h hrd hF hr
  rw [show cs=[ν k] from hr]
  unfold viewA at h
  split at h
  ·rename_i xs hk
   simp only [Option.some.injEq,Prod.mk.injEq] at h
   obtain ⟨rfl,rfl⟩:=h
   exact ⟨Zfo (g:=Zdp xs) (hs k _ (hrd (k,.ints xs) (by simp))) (hF (k,.ints xs) (by simp)),rfl,Zat hk⟩
  ·rename_i xs hk
   simp only [Option.some.injEq,Prod.mk.injEq] at h
   obtain ⟨rfl,rfl⟩:=h
   exact ⟨Zfo (g:=Zd0 xs) (hs k _ (hrd (k,.bools xs) (by simp))) (hF (k,.bools xs) (by simp)),rfl,Zat hk⟩
  ·rename_i xs hk
   simp only [Option.some.injEq,Prod.mk.injEq] at h
   obtain ⟨rfl,rfl⟩:=h
   exact ⟨Zbk (fun _ h=>h) (fun _ _=>rfl) (fun _ _ _ h=>Zbk hZ (fun _ _=>rfl) (fun _ _ _ h=>h) h) (Zfo (hs k _ (hrd (k,.rowsR xs) (by simp))) (hF (k,.rowsR xs) (by simp))),rfl,Zat hk⟩
  ·rename_i sz n f hk
   simp only [Option.some.injEq,Prod.mk.injEq] at h
   obtain ⟨rfl,rfl⟩:=h
   obtain ⟨A,cap,e0,c1,c2,c3⟩:=Zfo (hs k _ (hrd (k,.avs sz n f) (by simp))) (hF (k,.avs sz n f) (by simp))
   refine ⟨⟨A,cap,e0,c1,c2,fun hn=>?_⟩,rfl,Zat hk⟩
   obtain ⟨b,o,e1,e2,e3⟩:=c3 hn
   exact ⟨b,o,e1,e2,fun j hj=>by
    obtain ⟨es,f1,f2,f3⟩:=e3 j hj
    exact ⟨es,gua_ok hZ f2 f1,f2,f3⟩⟩
  ·cases h
 |agg a ih =>
  intro u' rd m cs h hrd hF hr
  simp only [viewA] at h
  split at h
  ·rename_i a' rd' ha
   simp only [Option.some.injEq,Prod.mk.injEq] at h
   obtain ⟨rfl,rfl⟩:=h
   cases m with
   |true=>obtain ⟨es,e,r⟩:=hr;obtain ⟨r1,r2,r3⟩:=ih ha hrd hF r;exact ⟨⟨es,e,r1⟩,r2,r3⟩
   |false=>obtain ⟨r1,r2,r3⟩:=ih (m:=true) ha hrd hF hr;exact ⟨r1,r2,r3⟩
  ·cases h
 |cons a b ih1 ih2 =>
  intro u' rd m cs h hrd hF hr
  simp only [viewA] at h
  split at h
  ·rename_i a' rd1 ha
   split at h
   ·rename_i b' rd2 hb
    simp only [Option.some.injEq,Prod.mk.injEq] at h
    obtain ⟨rfl,rfl⟩:=h
    obtain ⟨v,vs,e,r1,r2⟩:=hr
    obtain ⟨p1,p2,p3⟩:=ih1 ha (fun p hp=>hrd p (List.mem_append_left _ hp)) (fun p hp=>hF p (List.mem_append_left _ hp)) r1
    obtain ⟨q1,q2,q3⟩:=ih2 hb (fun p hp=>hrd p (List.mem_append_right _ hp)) (fun p hp=>hF p (List.mem_append_right _ hp)) r2
    refine ⟨⟨v,vs,e,p1,q1⟩,by simp only [men,p2,q2];rfl,fun p hp=>?_⟩
    rcases List.mem_append.1 hp with h|h
    ·exact p3 p h
    ·exact q3 p h
   ·cases h
  ·cases h
 |nil =>
  intro u' rd m cs h hrd hF hr
  simp only [viewA,Option.some.injEq,Prod.mk.injEq] at h
  obtain ⟨rfl,rfl⟩:=h
  exact ⟨hr,rfl,Zan⟩
 |_=>intro u' rd m cs h hrd hF hr;exact plain h hr
theorem view_rd {l : List (Nat × Option Blk)} : ∀ {u u' : AV} {rd : List (Nat × Blk)}, viewA l u = some (u', rd) → RdIn l rd := by
  intro u
  induction u with
  | own k =>
    intro u' rd h
    unfold viewA at h
    (repeat' split at h) <;> first | (cases h; done) | (simp only [Option.some.injEq, Prod.mk.injEq] at h; obtain ⟨_, rfl⟩ := h; exact Zat (by assumption))
  | agg a ih =>
    intro u' rd h
    simp only [viewA] at h
    split at h
    · rename_i a' rd' ha
      simp only [Option.some.injEq, Prod.mk.injEq] at h; obtain ⟨_, rfl⟩ := h; exact ih ha
    · cases h
  | cons a b ih1 ih2 =>
    intro u' rd h
    simp only [viewA] at h
    split at h
    · rename_i a' rd1 ha
      split at h
      · rename_i b' rd2 hb
        simp only [Option.some.injEq, Prod.mk.injEq] at h
        obtain ⟨_, rfl⟩ := h
        intro p hp
        rcases List.mem_append.1 hp with h | h
        · exact ih1 ha p h
        · exact ih2 hb p h
      · cases h
    · cases h
  | nil => intro u' rd h; simp only [viewA, Option.some.injEq, Prod.mk.injEq] at h; obtain ⟨_, rfl⟩ := h; exact Zan
  | _ => intro u' rd h; simp only [viewA] at h; split at h
         · simp only [Option.some.injEq, Prod.mk.injEq] at h; obtain ⟨_, rfl⟩ := h; exact Zan
         · cases h
def isOne : Nat→Bool:=fun k=>Nat.beq k 0
def ofSR (kn:Nat) (rd:List (Nat × Blk)) (r:SR):Option EvR :=
 match r.wr with
 |none=>if men noK r.val && (rd.isEmpty || zfree r.val) then some ⟨r.val,rd,[],none,r.ob⟩ else none
 |some B=>if men isOne r.val && freeB B && (rd.isEmpty || (zfree r.val && zfreeB B)) then some ⟨ren (fun _=>kn) r.val,rd,[(kn,some B)],some kn,r.ob⟩ else none
theorem Zeo {P:Program} {ro:Option Nat} {n f:Nat} {args:Array Value} {w:World} {R:Ending→World→Prop} (h:Calls P f args w R):CallsIn (FF ro) n P f args w R :=
 ⟨trivial,(callsIn_wide (n:=n).2 h).2⟩
theorem Zk1 : ∀ {u:AV},properL u=true→mkL (lsOf u)=u:=by
 intro u
 induction u with
 |cons a b _ ih=>intro h;simp only [lsOf,mkL];rw [ih h]
 |nil=>intro _;rfl
 |_=>intro h;cases h
section
variable {P:Program} {ro:Option Nat} {N:Nat} {ops:Array Oper}
theorem Good.setd {K Z:Nat→Prop} {w:World} {ν:Nat→Value} {σ:St} {a:Act} {o:Option Nat} {v:AV} {y:Value} (hg:Good K Z N w ν σ a) (ho:∀ d,o=some d→d < N) (hr:R Z w v ν true [y]) (hm:men σ.mu v=true) :
  Good K Z N w ν { σ with env:=putO σ.env o v } (a.put o y):=by
 cases o with
 |none=>exact hg
 |some d =>
  have hd:=ho d rfl
  refine ⟨by simp [Act.put,hg.size],hg.one,fun s=>?_,hg.rs,hg.zk,hg.kl,hg.ds,hg.ml⟩
  by_cases hs:s=d
  ·subst hs
   show men σ.mu (put σ.env s v s)=true∧R Z w (put σ.env s v s) ν true [_]
   rw [Zlz]
   have:(a.tmps.setIfInBounds s y).getD s undef=y:=by
    simp [Array.getD_eq_getD_getElem?,hg.size,hd]
   exact ⟨hm,by show R Z w v ν true [(a.tmps.setIfInBounds s y).getD s undef];rw [this];exact hr⟩
  ·show men σ.mu (put σ.env d v s)=true∧R Z w (put σ.env d v s) ν true [_]
   rw [Zjn hs]
   have:(a.tmps.setIfInBounds d y).getD s undef=a.tmps.getD s undef:=by
    simp [Array.getD_eq_getD_getElem?,Array.getElem?_setIfInBounds,Ne.symm hs]
   exact ⟨(hg.env s).1,by show R Z w (σ.env s) ν true [(a.tmps.setIfInBounds d y).getD s undef];rw [this];exact (hg.env s).2⟩
theorem Good.next {K Z:Nat→Prop} {w:World} {ν:Nat→Value} {σ:St} {a:Act} (hg:Good K Z N w ν σ a) {it:Item} (hf:Fits N it σ) {Z':Nat→Prop} {w':World} {ν':Nat→Value} {y:Value} (hs:Step K Z w Z' w') (hν:∀ k,σ.mu k=true→ν' k=ν k) (h1:∀ k,(ν' k).oneCell'=true)
  (hrs:GoodRs (un K Z') Z' w' ν' (addK σ.mu it.kn) (updL σ.rs it.wr)) (hr:R Z' w' it.val ν' true [y]) (hm:men (addK σ.mu it.kn) it.val=true) (hz:∀ b,Z' b→b < w'.heap.size):Good (un K Z') Z' N w' ν' (it.app σ) (a.put it.dst y):=by
 have hgood:Good (un K Z') Z' N w' ν' { mu:=addK σ.mu it.kn,env:=σ.env,rs:=updL σ.rs it.wr,ms:=σ.ms } a:=by
  refine ⟨hg.size,h1,fun s=>⟨Zdt Zci (hg.env s).1,R_nu hν (hg.env s).1 (Zbc hs.le (fun b hb=>hs.ext.block b (hg.zk b hb)) (hg.env s).2)⟩,hrs,fun b hb=>.inr hb,fun b hb=>?_,?_,fun k hk=>Zci k (hg.ml k hk)⟩
  ·rcases hb with h|h
   ·exact Nat.lt_of_lt_of_le (hg.kl b h) hs.ext.size
   ·exact hz b h
  ·rw [hg.ds]
   exact fmC fun k hk=>by rw [hν k (hg.ml k hk)]
 exact Good.setd hgood hf.dst hr hm
theorem Zbq {o:Oper} (h:∀ c,o.op≠.defer c) (ev:Operand→Value):o.semAt (FF ro).round ev=execOp ev o:=Oper.semAt_eq _ _ _ h
end
open Go
def Does (P:Program) (ro:Option Nat) (o:Oper) (get:Operand→AV) (val:AV) (rd:List (Nat × Blk)) (wr:List (Nat × Option Blk)) (kn:Option Nat):Prop :=
 ∀ (n:Nat) (K Z:Nat→Prop) (ν:Nat→Value) (w:World) (a:Act) (μ:Nat→Bool) (rs:Rs),(∀ k,(ν k).oneCell'=true)→GoodRs K Z w ν μ rs→(∀ b,Z b→K b)→(∀ b,K b→b < w.heap.size) →
  (∀ x,x∈o.op.operands→R Z w (get x) ν true [a.eval x]∧men μ (get x)=true)→(∀ p,p∈rd→rs p.1=some p.2)→(∀ k,kn=some k→μ k=false) →
  ∀ (next:Act→World→Prop) (Q:Exit→Act→World→Prop),
   (∀ (y:Value) (Z':Nat→Prop) (ν':Nat→Value) (w':World),Step K Z w Z' w'→(∀ k,μ k=true→ν' k=ν k)→(∀ k,(ν' k).oneCell'=true)→GoodRs (un K Z') Z' w' ν' (addK μ kn) (updL rs wr)→R Z' w' val ν' true [y]→men (addK μ kn) val=true→(∀ b,Z' b→b < w'.heap.size)→next (a.put o.dst y) w') →
   o.uponIn (FF ro) n P a next Q ((o.semAt (FF ro).round a.eval).run P w)
section
variable {P:Program} {ro:Option Nat} {N:Nat} {ops:Array Oper}
theorem Zdd {o:Oper} {get:Operand→AV} {val:AV} {rd:List (Nat × Blk)} {wr:List (Nat × Option Blk)} {kn:Option Nat} (hnd:∀ c,o.op≠.defer c) (hs:OpSem P o get val rd wr kn):Does P ro o get val rd wr kn:=by
 intro n K Z ν w a μ rs h1 hg hzk hkl hx hrd hkn next Q hnext
 rw [Zbq hnd]
 obtain ⟨y,w',ν',Z',hrun,hstep,hν,h1',hrs,hr,hm,hz⟩:=hs.sem K Z ν w a.eval μ rs h1 hg hzk hkl hx hrd hkn
 have hG:=hnext y Z' ν' w' hstep hν h1' hrs hr hm hz
 rcases hrun with hrun|⟨hrun,rfl⟩
 ·rw [hrun];exact hG
 ·rw [hrun];exact hG
theorem men_one {μ:Nat→Bool} {u:AV} {kn:Nat} (hk:μ kn=true) (h:men isOne u=true):men μ (ren (fun _=>kn) u)=true:=by
 induction u with
 |own k=>exact hk
 |adr k _ _ _=>exact hk
 |yld k=>exact hk
 |agg l ih=>exact ih h
 |tup l ih=>exact ih h
 |fn f c ih=>exact ih h
 |whn g u ih=>cases g with
  |true=>exact ih h
  |false=>rfl
 |cons a b ih1 ih2=>simp only [men,Bool.and_eq_true] at h;simp only [men,ren,ih1 h.1,ih2 h.2];rfl
 |_=>rfl
theorem menB_free {μ:Nat→Bool} {B:Blk} (h:freeB B=true) (hp:Zop B):menB μ B:=by cases B<;>first|exact trivial|exact fun j hj=>Zce (hp j hj)|cases h
theorem Zkn {Z:Nat→Prop} {w:World} {ν ν':Nat→Value} {x:Value} {F:Nat→Prop} {B:Blk} (hf:freeB B=true) (hp:Zop B) (h:sat Z w ν x F B):sat Z w ν' x F B:=by
 cases B with
 |avs sz n f=>exact Za3 (fun _ _=>rfl) (fun j _ hj h=>Zdi (hp j hj) h) h
 |rowsR xss=>exact Za3 (fun _ _=>rfl) (fun _ _ _ h=>Zdi rfl h) h
 |_=>first|exact h|cases hf
theorem does_call {o:Oper} {get:Operand→AV} {x:Operand} {xs:List Operand} {ts:Array TypeId} {f kn:Nat} {caps a':AV} {S:Spec} {r:SR} {rd:List (Nat × Blk)} {r':EvR} {l:List (Nat × Option Blk)}
  (ho:o.op=.call ⟨.value x,xs.toArray,ts⟩) (hf:get x=.fn f caps) (hpc:properL caps=true) (hv:viewA l (appL (ofL get xs) caps)=some (a',rd)) (hS:Zcn P f S) (hr:S (lsOf a')=some r) (hof:ofSR kn rd r=some r') (hob:r.ob) :
  Does P ro o get r'.val rd r'.wr r'.kn:=by
 have hpa:properL a'=true:=by
  have hp:properL (appL (ofL get xs) caps)=true:=by
   refine Zha ?_ hpc
   clear hv ho
   induction xs with
   |nil=>rfl
   |cons x xs ih=>exact ih
  have pv:∀ {u u':AV} {rd:List (Nat × Blk)},properL u=true→viewA l u=some (u',rd)→properL u'=true:=by
   intro u
   induction u with
   |cons a b _ ih =>
    intro u' rd hp h
    simp only [viewA] at h
    split at h
    ·split at h
     ·rename_i b' rd2 hb
      simp only [Option.some.injEq,Prod.mk.injEq] at h
      obtain ⟨rfl,rfl⟩:=h
      show properL b'=true
      exact ih hp hb
     ·cases h
    ·cases h
   |nil=>intro u' rd _ h;simp only [viewA,Option.some.injEq,Prod.mk.injEq] at h;obtain ⟨rfl,rfl⟩:=h;rfl
   |_=>intro u' rd hp;cases hp
  exact pv hp hv
 intro n K Z ν w a μ rs h1 hg hzk hkl hx hrd hkn next Q hnext
 obtain ⟨⟨fn,hfn,hname,hbody⟩,hS⟩:=hS
 obtain ⟨rf,mf⟩:=hx x (by rw [ho];simp [Op.operands,Call.operands])
 rw [hf] at rf
 obtain ⟨cv,ecv,rcv⟩:=rf
 have ecv:=one1 ecv
 have hargs:R Z w (ofL get xs) ν true (xs.map a.eval)∧men μ (ofL get xs)=true:=Zl1 xs fun y hy=>hx y (by rw [ho];simp [Op.operands,Call.operands];exact .inr hy)
 have hpl:properL (ofL get xs)=true:=by
  clear hv ho hargs hx
  induction xs with
  |nil=>rfl
  |cons x xs ih=>exact ih
 have hall:R Z w (appL (ofL get xs) caps) ν true (xs.map a.eval++cv):=Znn hpl hargs.1 rcv
 obtain ⟨Ft,hF⟩:=id hg
 let Fb:Nat→Prop:=fun b=>∃ p,p∈rd∧Ft p.1 b
 let Kc:Nat→Prop:=fun b=>K b∨∃ k B,rs k=some B∧Ft k b
 let Zc:Nat→Prop:=fun b=>Z b∨Fb b
 have hFb:∀ b,Fb b→Kc b:=fun b ⟨p,hp,hb⟩=>.inr ⟨p.1,p.2,hrd p hp,hb⟩
 have hKc:∀ b,Kc b→b < w.heap.size:=fun b hb=>hb.elim (hkl b) fun ⟨k,B,hk,hb⟩=>((hF k B hk).2.2.2.1 b hb).2
 have hFK:∀ b,Fb b→¬ K b:=fun b ⟨p,hp,hb⟩=>((hF p.1 p.2 (hrd p hp)).2.2.2.1 b hb).1
 obtain ⟨va,ma,_⟩:=view_ok (Zc:=Zc) (rs:=rs) (Ft:=Ft) (fun b hb=>.inl hb) (fun k b hk=>(hF k b hk).2.2.1) hv hrd (fun p hp y hy=>.inr ⟨p,hp,hy⟩) hall
 have hcall:=hS (lsOf a') r hr hob (by rw [Zk1 hpa];exact ma) Kc Zc nu0 w (xs.map a.eval++cv).toArray (fun _=>rfl) (by rw [Zk1 hpa];exact va) (by rw [Zk1 hpa];exact Zce ma) ⟨fun _ _=>False,fun k b hk=>by cases hk⟩
  (fun b hb=>hb.elim (fun h=>.inl (hzk b h)) (hFb b)) hKc
 have hsem:(o.semAt (FF ro).round a.eval).run P w=.ok (.enter f (xs.map a.eval++cv).toArray) w:=by
  rw [Zbq (by rw [ho];intro c hc;cases hc)]
  simp [execOp,ho,resolve,ecv,Deferred.ofValue,invoke,callFunc,hfn,Sem.run_bind,Result.andThen,Sem.run,program]
  have hname' : ¬ fn.name = "runtime.NumGoroutine" := by simpa using hname
  cases hb:fn.body with
  |none=>rw [hb] at hbody;cases hbody
  |some c=>simp [hname',hb,Sem.run]
 rw [hsem]
 refine ⟨(fun h=>by cases h),CallsIn.mono (Zeo hcall) ?_⟩
 rintro e w' ⟨y,Z',ν',v,μ',rs',rfl,hstep,h1',_,_,hr',hm',hrs',hzs,rfl,hw⟩
 let Zn:Nat→Prop:=fun b=>Z' b∧¬ Fb b
 have hold:∀ b,Kc b→w'.heap[b]? = w.heap[b]?:=hstep.ext.block
 have hZn:∀ b,Zn b→Z b∨¬ Kc b:=fun b ⟨h,hn⟩=>by
  rcases hstep.new b h with (h|h)|h
  ·exact .inl h
  ·exact absurd h hn
  ·exact .inr h
 have hst:Step K Z w Zn w':=⟨⟨hstep.ext.os,hstep.ext.tape,hstep.ext.output,hstep.ext.size,fun b hb=>hold b (.inl hb)⟩,fun b hb=>⟨hstep.le b (.inl hb),fun hf=>hFK b hf (hzk b hb)⟩,fun b hb=>(hZn b hb).imp id fun h hk=>h (.inl hk)⟩
 have hZsame:rd=[]→Zn=Z':=fun h0=>by
  funext b
  simp only [Zn,eq_iff_iff,and_iff_left_iff_imp]
  rintro _ ⟨p,hp,_⟩
  rw [h0] at hp;cases hp
 have hfree:∀ {k B},rs k=some B→∀ b,Ft k b→¬ un K Zn b∧b < w'.heap.size:=fun {k B} hk b hb=>by
  refine ⟨?_,Nat.lt_of_lt_of_le ((hF k B hk).2.2.2.1 b hb).2 hstep.ext.size⟩
  rintro (h|h)
  ·exact ((hF k B hk).2.2.2.1 b hb).1 h
  ·rcases hZn b h with h2|h2
   ·exact ((hF k B hk).2.2.2.1 b hb).1 (hzk b h2)
   ·exact h2 (.inr ⟨k,B,hk,hb⟩)
 unfold ofSR at hof
 split at hof
 ·rename_i hwr
  split at hof
  ·rename_i hc
   simp only [Option.some.injEq] at hof
   subst hof
   simp only [Bool.and_eq_true,Bool.or_eq_true,List.isEmpty_iff] at hc
   obtain ⟨c1,c2⟩:=hc
   refine hnext y Zn ν w' hst (fun _ _=>rfl) h1 ?_ ?_ (Zce c1) (fun b hb=>hzs b hb.1)
   ·refine ⟨Ft,fun k B hk=>?_⟩
    obtain ⟨g1,g2,g3,g4,g5⟩:=hF k B hk
    exact ⟨g1,g2,Zbl (fun b hb=>hst.le b hb) (fun b hb=>hold b (.inl (hzk b hb))) (fun b hb=>hold b (.inr ⟨k,B,hk,hb⟩)) g3,hfree hk,g5⟩
   ·rcases c2 with c2|c2
    ·rw [hZsame c2];exact Zdi c1 hr'
    ·exact R_zfree c2 (Zdi c1 hr')
  ·cases hof
 ·rename_i B hwr
  split at hof
  ·rename_i hc
   simp only [Option.some.injEq] at hof
   subst hof
   simp only [Bool.and_eq_true,Bool.or_eq_true,List.isEmpty_iff] at hc
   obtain ⟨⟨c1,c2⟩,c3⟩:=hc
   have hk2:=hkn kn rfl
   obtain ⟨hw1,hw2,hw3⟩:=hw B hwr
   obtain ⟨Fn,hFn⟩:=hrs'
   obtain ⟨f1,f2,f3,f4,f5⟩:=hFn 0 B hw2
   refine hnext y Zn (upN ν kn (ν' 0)) w' hst (Zcd hk2) (Zdm h1 (h1' 0)) ?_ ?_ (men_one Zbz c1) (fun b hb=>hzs b hb.1)
   ·have hnew:∀ k,k≠kn→updL rs [(kn,some B)] k=rs k:=fun k hk=>by
     have:lko [(kn,some B)] k=none:=Zgu (by intro p hp;simp at hp;subst hp;exact Ne.symm hk)
     simp only [updL,this]
    have hnew2:updL rs [(kn,some B)] kn=some B:=by simp [updL,lko,Nat.beq_refl]
    refine ⟨fun k=>if k=kn then Fn 0 else Ft k,fun k B' hk=>?_⟩
    by_cases hkk:k=kn
    ·subst hkk
     rw [hnew2] at hk
     obtain rfl:B=B':=Option.some.inj hk
     dsimp only
     rw [if_pos rfl,upN_same]
     refine ⟨Zbz,menB_free c2 hw3,?_,fun b hb=>⟨?_,(f4 b hb).2⟩,fun k' b' hne hk' b hb=>?_⟩
     ·rcases c3 with c3|c3
      ·rw [hZsame c3];exact Zkn c2 hw3 f3
      ·exact sat_zfree c3.2 (Zkn c2 hw3 f3)
     ·rintro (h|h)
      ·exact (f4 b hb).1 (.inl (.inl h))
      ·exact (f4 b hb).1 (.inr h.1)
     ·rw [if_neg (Ne.symm hne)]
      rw [hnew k' (Ne.symm hne)] at hk'
      exact fun h=>(f4 b hb).1 (.inl (.inr ⟨k',b',hk',h⟩))
    ·rw [hnew k hkk] at hk
     obtain ⟨g1,g2,g3,g4,g5⟩:=hF k B' hk
     dsimp only
     rw [if_neg hkk,Zfn hkk]
     refine ⟨Zci k g1,Zdo Zci g2,Zbl (fun b hb=>hst.le b hb) (fun b hb=>hold b (.inl (hzk b hb))) (fun b hb=>hold b (.inr ⟨k,B',hk,hb⟩)) (Zet (Zcd hk2) g2 g3),hfree hk,fun k' b' hne hk' b hb=>?_⟩
     by_cases hk3:k'=kn
     ·subst hk3
      rw [if_pos rfl]
      exact fun h=>(f4 b h).1 (.inl (.inr ⟨k,B',hk,hb⟩))
     ·rw [if_neg hk3]
      rw [hnew k' hk3] at hk'
      exact g5 k' b' hne hk' b hb
   ·rw [R_ren]
    have hn:R Z' w' r.val (fun _=>upN ν kn (ν' 0) kn) true [y]:=R_nu (μ:=isOne) (fun k hk=>by
     have:=Nat.eq_of_beq_eq_true hk
     subst this
     rw [upN_same]) c1 hr'
    rcases c3 with c3|c3
    ·rw [hZsame c3];exact hn
    ·exact R_zfree c3.1 hn
  ·cases hof
end
end Go.Proofs.YtjcmlflljibikaaGreatDoor.Cal
