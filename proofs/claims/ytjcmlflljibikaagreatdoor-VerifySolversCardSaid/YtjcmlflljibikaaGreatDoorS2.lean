/- Own texts, merged. -/
import Derived.Laws.CopyRow
import Derived.Laws.Append
import Derived.Deep.OwnRows
import Derived.Test.YtjcmlflljibikaaGreatDoorS1
set_option linter.unusedVariables false
set_option linter.unusedSimpArgs false
open Nat (reduceAdd reduceSub reduceMul reduceEqDiff reduceLeDiff reduceLT)
namespace Go.Proofs.YtjcmlflljibikaaGreatDoor.Cal
open Go
theorem foldl_sets (o:Nat):∀ (vs:List Value) (k:Nat) (cs:Array Value),o+k+vs.length≤cs.size →
  (vs.zipIdx k).foldl (fun (cs:Array Value) (p:Value × Nat)=>cs.setIfInBounds (o+p.2) p.1) cs=(cs.toList.take (o+k)++vs++cs.toList.drop (o+k+vs.length)).toArray
 |[],k,cs,h=>by simp
 |v :: vs,k,cs,h=>by
  simp only [List.zipIdx_cons,List.foldl_cons]
  rw [foldl_sets o vs (k+1) _ (by simp at h ⊢;omega)]
  simp only [List.length_cons] at h
  apply congrArg List.toArray
  apply List.ext_getElem?
  intro j
  simp only [Array.toList_setIfInBounds,List.length_cons]
  by_cases h1:j < o+k
  ·rw [List.getElem?_append_left (by simp;omega),List.getElem?_append_left (by simp;omega),List.getElem?_append_left (by simp;omega),List.getElem?_append_left (by simp;omega)]
   simp [List.getElem?_take,h1,show j < o+(k+1) by omega,List.getElem?_set,show ¬ o+k=j by omega]
  ·by_cases h2:j=o+k
   ·subst h2
    rw [List.getElem?_append_left (by simp;omega),List.getElem?_append_left (by simp;omega),List.getElem?_append_left (by simp;omega),List.getElem?_append_right (by simp;omega)]
    have e:o+k - (List.take (o+k) cs.toList).length=0:=by simp;omega
    rw [e]
    simp [List.getElem?_take,show o+k < o+(k+1) by omega,show o+k < cs.size by omega]
   ·by_cases h3:j < o+k+(vs.length+1)
    ·rw [List.getElem?_append_left (by simp;omega),List.getElem?_append_right (by simp;omega),List.getElem?_append_left (by simp;omega),List.getElem?_append_right (by simp;omega)]
     have e1:j - (List.take (o+(k+1)) (cs.toList.set (o+k) v)).length=j - (o+k+1):=by simp;omega
     have e2:j - (List.take (o+k) cs.toList).length=(j - (o+k+1))+1:=by simp;omega
     rw [e1,e2];simp
    ·rw [List.getElem?_append_right (by simp;omega),List.getElem?_append_right (by simp;omega)]
     have e1:j - (List.take (o+(k+1)) (cs.toList.set (o+k) v)++vs).length=j - (o+k+1+vs.length):=by simp;omega
     have e2:j - (List.take (o+k) cs.toList++v :: vs).length=j - (o+k+1+vs.length):=by simp;omega
     rw [e1,e2,List.getElem?_drop,List.getElem?_drop,List.getElem?_set]
     rw [if_neg (by omega)]
     congr 1
     omega
theorem set_cells (o:Nat) (vs cs:Array Value) (h:o+vs.size≤cs.size):(vs.zipIdx.foldl (fun (cs:Array Value) (p:Value × Nat)=>cs.setIfInBounds (o+p.2) p.1) cs)=(cs.toList.take o++vs.toList++cs.toList.drop (o+vs.size)).toArray:=by
 have:=foldl_sets o vs.toList 0 cs (by simpa using h)
 simp only [Nat.add_zero,Array.length_toList] at this
 rw [←this,←Array.foldl_toList]
 simp
theorem Zha : ∀ {a b:AV},properL a=true→properL b=true→properL (appL a b)=true:=by
 intro a
 induction a with
 |cons h t _ ih=>intro b hp hb;exact ih hp hb
 |nil=>intro b _ hb;exact hb
 |_=>intro b hp;cases hp
theorem properL_drop : ∀ {l:AV} {i:Nat},properL l=true→properL (dropL l i)=true:=by
 intro l
 induction l with
 |cons h t _ ih=>intro i hp;cases i with
  |zero=>exact hp
  |succ i=>exact ih hp
 |nil=>intro i _;cases i<;>rfl
 |_=>intro i hp;cases hp
theorem Zk3 {μ:Nat→Bool}:∀ {a b:AV},men μ a=true→men μ b=true→men μ (appL a b)=true:=by
 intro a
 induction a with
 |cons h t _ ih=>intro b ha hb;simp only [men,appL,Bool.and_eq_true] at ha ⊢;exact ⟨ha.1,ih ha.2 hb⟩
 |_=>intro b _ hb;exact hb
theorem Znn {Z:Nat→Prop} {w:World} {ν:Nat→Value}:∀ {a b:AV} {ca cb:List Value},properL a=true→R Z w a ν true ca→R Z w b ν true cb→R Z w (appL a b) ν true (ca++cb):=by
 intro a
 induction a with
 |cons h t _ ih=>intro b ca cb hp ha hb;obtain ⟨v,vs,rfl,r1,r2⟩:=ha;exact ⟨v,vs++cb,rfl,r1,ih hp r2 hb⟩
 |nil=>intro b ca cb _ ha hb;rw [show ca=[] from ha];exact hb
 |_=>intro b ca cb hp;cases hp
theorem cells_of_val {Z:Nat→Prop} {w:World} {ν:Nat→Value} {u:AV} {v:Value} (hv:isV u=true) (h:R Z w u ν true [v]) (hone:isAg u=false→v.cells.toList=[v]):R Z w (cellsL u) ν true v.cells.toList:=by
 cases u with
 |agg l=>obtain ⟨es,e,r⟩:=h;obtain rfl:=one1 e;exact r
 |nil=>cases hv
 |cons a b=>cases hv
 |_=>rw [hone rfl];exact ⟨v,[],rfl,h,rfl⟩
section
variable {P:Program} {K Z:Nat→Prop} {ν:Nat→Value} {w:World} {get:Operand→AV} {ev:Operand→Value} {μ:Nat→Bool} {rs:Rs} {xs:List Operand} {l:List (Nat × Option Blk)}
theorem Zd8 {u:AV} {v:Value} (h1:∀ k,(ν k).oneCell'=true) (hc:isC u=true) (ha:isAg u=false) (h:R Z w u ν true [v]):v.oneCell'=true∧v.cells = #[v]:=by
 cases u with
 |agg l=>cases ha
 |int k n=>obtain rfl:=one1 h;exact ⟨rfl,rfl⟩
 |bool b=>obtain rfl:=one1 h;exact ⟨rfl,rfl⟩
 |own k=>obtain rfl:=one1 h;exact ⟨h1 k,by have:=h1 k;cases hk:ν k<;>simp_all [Value.oneCell',Value.cells]⟩
 |adr k sz i o=>obtain ⟨b,f,_,e⟩:=h;obtain rfl:=one1 e;exact ⟨rfl,rfl⟩
 |roI xs=>obtain ⟨A,cap,e,_⟩:=h;obtain rfl:=one1 e;exact ⟨rfl,rfl⟩
 |roB xs=>obtain ⟨A,cap,e,_⟩:=h;obtain rfl:=one1 e;exact ⟨rfl,rfl⟩
 |roII xs=>obtain ⟨A,cap,e,_⟩:=h;obtain rfl:=one1 e;exact ⟨rfl,rfl⟩
 |ro sz n f=>obtain ⟨A,cap,e,_⟩:=h;obtain rfl:=one1 e;exact ⟨rfl,rfl⟩
 |rop u=>obtain ⟨b,o,e,_⟩:=h;obtain rfl:=one1 e;exact ⟨rfl,rfl⟩
 |fn f c=>obtain ⟨es,e,_⟩:=h;obtain rfl:=one1 e;exact ⟨rfl,rfl⟩
 |yld k=>obtain ⟨l,_,e⟩:=h;obtain rfl:=one1 e;exact ⟨rfl,rfl⟩
 |cst c=>obtain rfl:=one1 h;cases v<;>first|cases hc;done|exact ⟨rfl,rfl⟩
 |_=>cases hc
theorem Zoz {u:AV} (h:isC u=true):isV u=true:=by cases u<;>first|rfl|cases h
theorem Zfs {u:AV} {v:Value} (h1:∀ k,(ν k).oneCell'=true) (hc:isC u=true) (h:R Z w u ν true [v]):R Z w (cellsL u) ν true v.cells.toList :=
 cells_of_val (Zoz hc) h fun ha=>by rw [(Zd8 h1 hc ha h).2]
theorem fill_ok {fs:List (Nat × Nat × Bool)} {places:Array (Nat × Nat)} (hp:∀ (f o sz:Nat) (g:Bool),fs[f]? = some (o,sz,g)→places[f]? = some (o,sz)) (h1:∀ k,(ν k).oneCell'=true) :
  ∀ (parts:List (Nat × Operand)) (l l':AV) (cs:List Value),(∀ p,p∈parts→R Z w (get p.2) ν true [ev p.2]∧men μ (get p.2)=true)→R Z w l ν true cs→properL l=true→men μ l=true →
   fillL fs l (parts.map fun p=>(p.1,get p.2))=some l'→∃ cs',Instr.fill (places[·]?) cs.toArray (parts.map fun p=>(p.1,ev p.2))=some cs'.toArray∧R Z w l' ν true cs'∧men μ l'=true
 |[],l,l',cs,_,hr,_,hm,h=>by
  simp only [List.map_nil,fillL,Option.some.injEq] at h
  subst h
  exact ⟨cs,rfl,hr,hm⟩
 |(f,x) :: parts,l,l',cs,hx,hr,hpr,hm,h=>by
  simp only [List.map_cons,fillL] at h
  split at h
  ·rename_i o sz g hf
   split at h
   ·rename_i hc
    simp only [Bool.and_eq_true,Nat.ble_eq] at hc
    obtain ⟨⟨⟨hv,hpv⟩,hsz⟩,hle⟩:=hc
    have hsz:=Nat.eq_of_beq_eq_true hsz
    obtain ⟨rx,mx⟩:=hx (f,x) List.mem_cons_self
    have rc:=Zfs h1 hv rx
    have hlen:=Zj5 hpv rc
    have hlcs:=Zj5 hpr hr
    have hsize:(ev x).cells.size=sz:=by simpa [hsz] using hlen
    obtain ⟨cs',e1,e2,e3⟩:=fill_ok hp h1 parts _ l' (cs.take o++((ev x).cells.toList++cs.drop (o+sz))) (fun p hp=>hx p (List.mem_cons_of_mem _ hp))
     (Znn (Zgd (by omega)) (Zne hr (by omega)) (Znn hpv rc (Zng hr (by omega)))) (Zha (Zgd (by omega)) (Zha hpv (properL_drop hpr)))
     (Zk3 (Zi3 hm) (Zk3 (Zdz mx) (Zi5 hm))) h
    refine ⟨cs',?_,e2,e3⟩
    rw [←e1]
    simp only [List.map_cons,Instr.fill,hp f o sz g hf]
    rw [if_neg (by simp [hsize];omega),set_cells o _ _ (by simp [hsize];omega)]
    simp [hsize,List.append_assoc]
   ·cases h
  ·cases h
theorem run_mapM_ok' {α β:Type} (g:α→Sem β) (r:α→β) (w:World):∀ (l:List α),(∀ a,a∈l→(g a).run P w=.ok (r a) w)→(l.mapM g).run P w=.ok (l.map r) w
 |[],_=>by simp [Sem.run]
 |a :: l,h=>by
  rw [List.mapM_cons]
  simp [Sem.run_bind,h a List.mem_cons_self,run_mapM_ok' g r w l (fun x hx=>h x (List.mem_cons_of_mem _ hx)),Result.andThen,Sem.run]
theorem says_build {t:Nat} {i:TI} (ht:TOK P t i) {fs:List (Nat × Nat × Bool)} (hk:i.k=.str fs) (h1:∀ k,(ν k).oneCell'=true) {parts:Array (Nat × Operand)} {l':AV} (hz:properL (cellsL i.zero)=true) (hz2:isV i.zero=true)
  (hx:∀ p,p∈parts.toList→R Z w (get p.2) ν true [ev p.2]∧men μ (get p.2)=true) (hmz:men μ i.zero=true) (h:fillL fs (cellsL i.zero) (parts.toList.map fun p=>(p.1,get p.2))=some l') :
  ∃ y,(Instr.build t (parts.map fun p=>(p.1,ev p.2))).run P w=.ok y w∧R Z w (.agg l') ν true [y]∧men μ l'=true:=by
 obtain ⟨arr,hu,hsz,hf⟩:=ht.str fs hk
 obtain ⟨inf,hi1,hi2,_,z,hz3,_,_,_,hz4⟩:=ht.info
 have hzv:(zeroValue t).run P w=.ok z w:=by simp [zeroValue,typeInfo,Sem.run_bind,hi1,hz3,Result.andThen,program,Sem.run]
 let pl:Field→Nat × Nat:=fun f=>(f.offset,((P.info? f.type).map (·.size)).getD 0)
 have hpl:(arr.mapM fun f=>do pure (f.offset,←sizeOf f.type):Sem (Array (Nat × Nat))).run P w=.ok (arr.toList.map pl).toArray w:=by
  rw [Array.mapM_eq_mapM_toList]
  have:=run_mapM_ok' (P:=P) (fun f:Field=>(do pure (f.offset,←sizeOf f.type):Sem (Nat × Nat))) pl w arr.toList (fun f hfm=>by
   obtain ⟨k,hk1,hk2⟩:=List.getElem_of_mem hfm
   have hkk:k < fs.length:=by rw [←hsz];simpa using hk1
   obtain ⟨fd,a1,a2,a3,inf',a4,a5⟩:=hf k fs[k].1 fs[k].2.1 fs[k].2.2 (by simp [hkk])
   have:fd=f:=by
    have e:arr[k]? = some f:=by rw [←hk2];simp
    rw [a1] at e;exact Option.some.inj e
   subst this
   simp [sizeOf,typeInfo,Sem.run_bind,a4,Result.andThen,program,Sem.run,pl])
  rw [map_eq_pure_bind,Sem.run_bind,this]
  rfl
 have hp:∀ (f o sz:Nat) (g:Bool),fs[f]? = some (o,sz,g)→(arr.toList.map pl).toArray[f]? = some (o,sz):=by
  intro f o sz g hfs
  obtain ⟨fd,a1,a2,a3,inf',a4,a5⟩:=hf f o sz g hfs
  simp [a1,pl,a2,a4,a5]
 obtain ⟨cs',e1,e2,e3⟩:=fill_ok (ev:=ev) hp h1 parts.toList (cellsL i.zero) l' z.cells.toList hx (Zj6 hz2 (hz4 Z w ν)) hz (Zdz hmz) h
 refine ⟨.agg cs'.toArray,?_,⟨cs',rfl,e2⟩,e3⟩
 simp at e1
 simp only [Instr.build,Sem.run_bind,Sem.run_pure,hzv,run_underlying hu,Result.andThen_ok,hpl]
 simp [e1,Sem.run]
theorem Zl1 : ∀ (xs:List Operand),(∀ x,x∈xs→R Z w (get x) ν true [ev x]∧men μ (get x)=true)→R Z w (ofL get xs) ν true (xs.map ev)∧men μ (ofL get xs)=true
 |[],_=>⟨rfl,rfl⟩
 |x :: xs,h=>by
  obtain ⟨h1,h2⟩:=Zl1 xs fun y hy=>h y (List.mem_cons_of_mem _ hy)
  obtain ⟨g1,g2⟩:=h x List.mem_cons_self
  exact ⟨⟨_,_,rfl,g1,h1⟩,by simp only [ofL,men,g2,h2,Bool.and_self]⟩
theorem equalIn_bool {t:Nat} (h:P.underlying t=some .bool) (d:Nat) (a b:Bool) (w:World):(Op.equalIn (d+1) t (.bool a) (.bool b)).run P w=.ok (a == b) w:=by
 simp [Op.equalIn,run_underlying h]
theorem eql_bool {t:Nat} (h:P.underlying t=some .bool) (a b:Bool) (w:World):(binOp .eql t (.bool a) (.bool b)).run P w=.ok (.bool (a == b)) w:=by
 simp only [binOp]
 simp [Op.equal,Op.maxDepth,equalIn_bool h 9999 a b w]
theorem neq_bool {t:Nat} (h:P.underlying t=some .bool) (a b:Bool) (w:World):(binOp .neq t (.bool a) (.bool b)).run P w=.ok (.bool (a != b)) w:=by
 simp only [binOp]
 simp [Op.equal,Op.maxDepth,equalIn_bool h 9999 a b w,bne]
theorem evp_ok {tb:Nat→Option TI} (htb:Zdf P tb) (hmz:∀ t i,tb t=some i→men noK i.zero=true) (o:Oper) (h1:∀ k,(ν k).oneCell'=true) (hg:GoodRs K Z w ν μ rs) (hx:∀ x,x∈o.op.operands→R Z w (get x) ν true [ev x]∧men μ (get x)=true)
  {v:AV} {rd:List (Nat × Blk)} {ob:Prop} (h:evp tb get l o.op=some (v,rd,ob)) (hob:ob) (hrd:∀ p,p∈rd→rs p.1=some p.2) :
  ∃ y,(execOp ev o).run P w=.ok (.value y) w∧R Z w v ν true [y]∧men μ v=true:=by
 have wrap:∀ (s:Sem Value),(∃ y,s.run P w=.ok y w∧R Z w v ν true [y]∧men μ v=true)→∃ y,(do pure (Next.value (←s)):Sem Next).run P w=.ok (.value y) w∧R Z w v ν true [y]∧men μ v=true:=by
  rintro s ⟨y,hy,r⟩
  exact ⟨y,by simp [Sem.run_bind,hy,Result.andThen,Sem.run],r⟩
 unfold execOp
 cases hop:o.op<;>rw [hop] at h hx<;>simp only [evp] at h
 case move x =>
  simp only [Option.some.injEq,Prod.mk.injEq] at h;obtain ⟨rfl,rfl,rfl⟩:=h
  exact ⟨_,rfl,hx x (by simp [Op.operands])⟩
 case assign x =>
  simp only [Option.some.injEq,Prod.mk.injEq] at h;obtain ⟨rfl,rfl,rfl⟩:=h
  exact ⟨_,rfl,hx x (by simp [Op.operands])⟩
 case load t a =>
  split at h
  ·rename_i i ht
   exact wrap _ (says_load (htb t i ht) hg (hx a (by simp [Op.operands])) h hob hrd)
  ·cases h
 case fieldAddr s x f =>
  split at h
  ·rename_i i ht
   split at h
   ·rename_i fs hk
    exact wrap _ (says_field (htb s i ht) hk hg (hx x (by simp [Op.operands])) h hrd)
   ·cases h
  ·cases h
 case indexAddr t x ix =>
  split at h
  ·rename_i i ht
   split at h
   ·rename_i e hk
    split at h
    ·rename_i ie he
     split at h
     ·rename_i z hz
      have:=(hx ix (by simp [Op.operands])).1
      rw [hz] at this
      have e1:=one1 this
      refine wrap _ ?_
      rw [e1]
      exact says_index (htb t i ht) hk (htb e ie he) hg (hx x (by simp [Op.operands])) h hob hrd
     ·cases h
    ·cases h
   ·cases h
  ·cases h
 case binOp op t x y yt =>
  have hrx:=(hx x (by simp [Op.operands])).1
  have hry:=(hx y (by simp [Op.operands])).1
  split at h
  ·rename_i a b ha hb
   rw [ha] at hrx;rw [hb] at hry
   have ea:=one1 hrx
   have eb:=one1 hry
   split at h
   ·rename_i i ht
    split at h
    ·rename_i hk
     simp only [Option.some.injEq,Prod.mk.injEq] at h;obtain ⟨rfl,rfl,rfl⟩:=h
     refine ⟨.bool (a == b),?_,rfl,rfl⟩
     simp [ea,eb,eqGuard,Sem.run_bind,eql_bool ((htb t i ht).bool hk),Result.andThen,Sem.run]
    ·rename_i hk
     simp only [Option.some.injEq,Prod.mk.injEq] at h;obtain ⟨rfl,rfl,rfl⟩:=h
     refine ⟨.bool (a != b),?_,rfl,rfl⟩
     simp [ea,eb,eqGuard,Sem.run_bind,neq_bool ((htb t i ht).bool hk),Result.andThen,Sem.run]
    ·cases h
   ·cases h
  ·exact wrap _ (says_bin (rs:=rs) hrx hry h hob x y hrd)
 case unOp op t x =>
  have hrx:=(hx x (by simp [Op.operands])).1
  split at h
  ·rename_i b hb
   rw [hb] at hrx
   have e:=one1 hrx
   simp only [Option.some.injEq,Prod.mk.injEq] at h;obtain ⟨rfl,rfl,rfl⟩:=h
   exact ⟨.bool (!b),by simp [e,Op.unary,Sem.run_bind,Result.andThen,Sem.run],rfl,rfl⟩
  ·rename_i n hn
   rw [hn] at hrx
   have e:=one1 hrx
   simp only [Option.some.injEq,Prod.mk.injEq] at h;obtain ⟨rfl,rfl,rfl⟩:=h
   exact ⟨.int .i64 (IntKind.i64.wrap (-n)),by simp [e,Op.unary,Op.intArith,Sem.run_bind,Result.andThen,Sem.run],rfl,rfl⟩
  ·cases h
 case extract x n =>
  have hrx:=hx x (by simp [Op.operands])
  split at h
  ·rename_i lst hl
   rw [hl] at hrx
   split at h
   ·rename_i hn
    simp only [Option.some.injEq,Prod.mk.injEq] at h;obtain ⟨rfl,rfl,rfl⟩:=h
    obtain ⟨es,e,r⟩:=hrx.1
    have e:=one1 e
    obtain ⟨y,hy,ry⟩:=Znm r (by simpa using hn)
    exact ⟨y,by simp [e,Instr.extract,Sem.run_bind,hy,Result.andThen,Sem.run],ry,Zmp hrx.2⟩
   ·cases h
  ·cases h
 case build t parts =>
  split at h
  ·rename_i i ht
   split at h
   ·rename_i fs hk
    split at h
    ·rename_i hc
     simp only [Bool.and_eq_true] at hc
     split at h
     ·rename_i l' hl'
      simp only [Option.some.injEq,Prod.mk.injEq] at h;obtain ⟨rfl,rfl,rfl⟩:=h
      exact wrap _ (says_build (htb t i ht) hk h1 hc.1.1 hc.1.2 (fun p hp=>hx p.2 (by simp [Op.operands];exact ⟨p.1,by simpa using hp⟩)) (Zce (hmz t i ht)) hl')
     ·cases h
    ·cases h
   ·cases h
  ·cases h
 case makeFunc fn first caps =>
  cases fn<;>simp only at h<;>try (cases h;done)
  rename_i f
  split at h
  ·rename_i hf
   simp only [Option.some.injEq,Prod.mk.injEq] at h;obtain ⟨rfl,rfl,rfl⟩:=h
   obtain ⟨r1,r2⟩:=Zl1 (get:=get) (ev:=ev) caps.toList fun x hxx=>hx x (by simp [Op.operands];exact .inr (by simpa using hxx))
   have hf0:first = #[]:=by simpa using hf
   exact ⟨.func (.func f) #[] (caps.map ev),by simp [Instr.makeFunc,hf0,Sem.run_bind,Result.andThen,Sem.run],⟨caps.toList.map ev,congrArg (fun a=>[Value.func (.func f) #[] a]) (Array.ext' (by simp)),r1⟩,r2⟩
  ·cases h
 case nilCheck x =>
  have hrx:=hx x (by simp [Op.operands])
  split at h
  ·rename_i k hk
   rw [hk] at hrx
   have e:=one1 hrx.1
   split at h
   ·simp only [Option.some.injEq,Prod.mk.injEq] at h;obtain ⟨rfl,rfl,rfl⟩:=h
    obtain ⟨b,cells,T,hv,_⟩:=Zl5 hg (Zev rfl hrd)
    exact ⟨_,by simp only [e,hv];rfl,by rw [←hv];rfl,hrx.2⟩
   ·cases h
  ·rename_i k sz i o hk
   rw [hk] at hrx
   obtain ⟨b,f,hb,e⟩:=hrx.1
   have e:=one1 e
   simp only [Option.some.injEq,Prod.mk.injEq] at h;obtain ⟨rfl,rfl,rfl⟩:=h
   exact ⟨_,by simp only [e];rfl,⟨b,f,hb,rfl⟩,hrx.2⟩
  ·rename_i u hk
   rw [hk] at hrx
   obtain ⟨b,q,e,r⟩:=hrx.1
   have e:=one1 e
   simp only [Option.some.injEq,Prod.mk.injEq] at h;obtain ⟨rfl,rfl,rfl⟩:=h
   exact ⟨_,by simp only [e];rfl,⟨b,q,rfl,r⟩,hrx.2⟩
  ·rename_i f c hk
   rw [hk] at hrx
   obtain ⟨vs,e,r⟩:=hrx.1
   have e:=one1 e
   simp only [Option.some.injEq,Prod.mk.injEq] at h;obtain ⟨rfl,rfl,rfl⟩:=h
   exact ⟨_,by simp only [e];rfl,⟨vs,rfl,r⟩,hrx.2⟩
  ·cases h
 case slice t x lo hi mx =>
  cases mx with
  |some _=>simp only at h;cases h
  |none =>
  simp only at h
  split at h
  ·rename_i i ht
   split at h
   ·rename_i e hk
    split at h
    ·rename_i ie he
     split at h
     ·rename_i hsz
      have hsz:=Nat.eq_of_beq_eq_true hsz
      split at h
      ·rename_i lz hlo
       have hop2:∀ y,lo=some y∨hi=some y→R Z w (get y) ν true [ev y]:=by
        intro y hy
        refine (hx y ?_).1
        rcases hy with rfl|rfl<;>simp [Op.operands]
       cases hi with
       |none=>exact wrap _ (says_slice (rs:=rs) (ev:=ev) (get:=get) (hi:=none) (htb t i ht) hk (htb e ie he) hsz (hx x (by simp [Op.operands])).1 hlo (.inl ⟨rfl,rfl⟩) hop2 h hob hrd)
       |some y =>
        simp only at h
        split at h
        ·rename_i z hz
         exact wrap _ (says_slice (rs:=rs) (ev:=ev) (get:=get) (hi:=some y) (htb t i ht) hk (htb e ie he) hsz (hx x (by simp [Op.operands])).1 hlo (.inr ⟨y,z,rfl,hz,rfl⟩) hop2 h hob hrd)
        ·cases h
      ·cases h
     ·cases h
    ·cases h
   ·cases h
  ·cases h
 case call c =>
  obtain ⟨callee,args,argTypes⟩:=c
  simp only at h
  split at h
  ·split at h
   ·rename_i x t ha hty
    have ha:args = #[x]:=by rw [←Array.toArray_toList (xs:=args),ha]
    have hty:argTypes = #[t]:=by rw [←Array.toArray_toList (xs:=argTypes),hty]
    subst ha hty
    split at h
    ·rename_i i ht
     split at h
     ·rename_i e hk
      obtain ⟨y,hy,r⟩:=says_len (rs:=rs) (htb t i ht) hk hg (hx x (by simp [Op.operands,Call.operands])).1 h o.type hrd
      exact ⟨y,by simp [resolve,invoke,builtin,Sem.run_bind,Result.andThen,Sem.run,hy],r⟩
     ·cases h
    ·cases h
   ·cases h
  ·split at h
   ·rename_i x y ha
    have ha:args = #[x,y]:=by rw [←Array.toArray_toList (xs:=args),ha]
    subst ha
    split at h
    ·rename_i a b hxa hyb
     have h3:=(hx x (by simp [Op.operands,Call.operands])).1
     have h4:=(hx y (by simp [Op.operands,Call.operands])).1
     rw [hxa] at h3;rw [hyb] at h4
     have e3:=one1 h3
     have e4:=one1 h4
     simp only [Option.some.injEq,Prod.mk.injEq] at h;obtain ⟨rfl,rfl,rfl⟩:=h
     refine ⟨.int .i64 (max a b),?_,rfl,rfl⟩
     have:(if b > a then b else a)=max a b:=by omega
     simp [resolve,invoke,builtin,Builtin.max_,Builtin.max2,Sem.run_bind,Result.andThen,Sem.run,e3,e4,this]
    ·cases h
   ·rename_i x y z ha
    have ha:args = #[x,y,z]:=by rw [←Array.toArray_toList (xs:=args),ha]
    subst ha
    split at h
    ·rename_i a b c hxa hyb hzc
     have h3:=(hx x (by simp [Op.operands,Call.operands])).1
     have h4:=(hx y (by simp [Op.operands,Call.operands])).1
     have h5:=(hx z (by simp [Op.operands,Call.operands])).1
     rw [hxa] at h3;rw [hyb] at h4;rw [hzc] at h5
     have e3:=one1 h3
     have e4:=one1 h4
     have e5:=one1 h5
     simp only [Option.some.injEq,Prod.mk.injEq] at h;obtain ⟨rfl,rfl,rfl⟩:=h
     refine ⟨.int .i64 (max (max a b) c),?_,rfl,rfl⟩
     have t1:(if b > a then b else a)=max a b:=by omega
     have t2:(if c > max a b then c else max a b)=max (max a b) c:=by omega
     simp [resolve,invoke,builtin,Builtin.max_,Builtin.max2,Sem.run_bind,Result.andThen,Sem.run,e3,e4,e5,t1,t2]
    ·cases h
   ·cases h
  ·split at h
   ·rename_i x y ha
    have ha:args = #[x,y]:=by rw [←Array.toArray_toList (xs:=args),ha]
    subst ha
    split at h
    ·rename_i a b hxa hyb
     have h3:=(hx x (by simp [Op.operands,Call.operands])).1
     have h4:=(hx y (by simp [Op.operands,Call.operands])).1
     rw [hxa] at h3;rw [hyb] at h4
     have e3:=one1 h3
     have e4:=one1 h4
     simp only [Option.some.injEq,Prod.mk.injEq] at h;obtain ⟨rfl,rfl,rfl⟩:=h
     refine ⟨.int .i64 (min a b),?_,rfl,rfl⟩
     have:(if b < a then b else a)=min a b:=by omega
     simp [resolve,invoke,builtin,Builtin.min_,Builtin.min2,Sem.run_bind,Result.andThen,Sem.run,e3,e4,this]
    ·cases h
   ·rename_i x y z ha
    have ha:args = #[x,y,z]:=by rw [←Array.toArray_toList (xs:=args),ha]
    subst ha
    split at h
    ·rename_i a b c hxa hyb hzc
     have h3:=(hx x (by simp [Op.operands,Call.operands])).1
     have h4:=(hx y (by simp [Op.operands,Call.operands])).1
     have h5:=(hx z (by simp [Op.operands,Call.operands])).1
     rw [hxa] at h3;rw [hyb] at h4;rw [hzc] at h5
     have e3:=one1 h3
     have e4:=one1 h4
     have e5:=one1 h5
     simp only [Option.some.injEq,Prod.mk.injEq] at h;obtain ⟨rfl,rfl,rfl⟩:=h
     refine ⟨.int .i64 (min (min a b) c),?_,rfl,rfl⟩
     have t1:(if b < a then b else a)=min a b:=by omega
     have t2:(if c < min a b then c else min a b)=min (min a b) c:=by omega
     simp [resolve,invoke,builtin,Builtin.min_,Builtin.min2,Sem.run_bind,Result.andThen,Sem.run,e3,e4,e5,t1,t2]
    ·cases h
   ·cases h
  ·cases h
 all_goals first|(cases h;done)|(simp at h;done)
end
open Go
def upN (ν:Nat→Value) (k:Nat) (x:Value):Nat→Value:=fun j=>if j=k then x else ν j
theorem upN_same {ν:Nat→Value} {k:Nat} {x:Value}:upN ν k x k=x:=by simp [upN]
theorem Zfn {ν:Nat→Value} {k j:Nat} {x:Value} (h:j≠k):upN ν k x j=ν j:=by simp [upN,h]
theorem Zcd {μ:Nat→Bool} {ν:Nat→Value} {k:Nat} {x:Value} (h:μ k=false):∀ j,μ j=true→upN ν k x j=ν j:=fun j hj=>Zfn (by rintro rfl;rw [h] at hj;cases hj)
theorem Zdm {ν:Nat→Value} {k:Nat} {x:Value} (h:∀ j,(ν j).oneCell'=true) (hx:x.oneCell'=true):∀ j,(upN ν k x j).oneCell'=true:=fun j=>by
 unfold upN;split
 ·exact hx
 ·exact h j
theorem Zci {μ:Nat→Bool} {kn:Option Nat}:∀ k,μ k=true→addK μ kn k=true:=fun k h=>by
 cases kn with
 |none=>exact h
 |some j=>simp [addK,h]
theorem Zbz {μ:Nat→Bool} {k:Nat}:addK μ (some k) k=true:=by simp [addK,Nat.beq_refl]
theorem Zh9 {μ:Nat→Bool} {k:Nat} (h:μ k=true):addK μ (some k)=μ:=by
 funext j
 simp only [addK]
 cases hj:Nat.beq j k with
 |false=>simp
 |true=>have:=Nat.eq_of_beq_eq_true hj;subst this;simp [h]
structure OpSem (P:Program) (o:Oper) (get:Operand→AV) (val:AV) (rd:List (Nat × Blk)) (wr:List (Nat × Option Blk)) (kn:Option Nat):Prop where
 sem:∀ (K Z:Nat→Prop) (ν:Nat→Value) (w:World) (ev:Operand→Value) (μ:Nat→Bool) (rs:Rs),(∀ k,(ν k).oneCell'=true)→GoodRs K Z w ν μ rs→(∀ b,Z b→K b)→(∀ b,K b→b < w.heap.size) →
  (∀ x,x∈o.op.operands→R Z w (get x) ν true [ev x]∧men μ (get x)=true)→(∀ p,p∈rd→rs p.1=some p.2)→(∀ k,kn=some k→μ k=false) →
  ∃ y w' ν' Z',((execOp ev o).run P w=.ok (.value y) w'∨((execOp ev o).run P w=.ok .skip w'∧y=undef))∧Step K Z w Z' w'∧(∀ k,μ k=true→ν' k=ν k)∧(∀ k,(ν' k).oneCell'=true) ∧
   GoodRs (un K Z') Z' w' ν' (addK μ kn) (updL rs wr)∧R Z' w' val ν' true [y]∧men (addK μ kn) val=true∧(∀ b,Z' b→b < w'.heap.size)
theorem Zdb {P:Program} {o:Oper} {get:Operand→AV} {val:AV} {rd:List (Nat × Blk)}
  (h:∀ (K Z:Nat→Prop) (ν:Nat→Value) (w:World) (ev:Operand→Value) (μ:Nat→Bool) (rs:Rs),(∀ k,(ν k).oneCell'=true)→GoodRs K Z w ν μ rs→(∀ x,x∈o.op.operands→R Z w (get x) ν true [ev x]∧men μ (get x)=true)→(∀ p,p∈rd→rs p.1=some p.2) →
   ∃ y,(execOp ev o).run P w=.ok (.value y) w∧R Z w val ν true [y]∧men μ val=true):OpSem P o get val rd [] none :=
 ⟨fun K Z ν w ev μ rs h1 hg hzk hkl hx hrd hkn=>by
  obtain ⟨y,hy,hr,hm⟩:=h K Z ν w ev μ rs h1 hg hx hrd
  exact ⟨y,w,ν,Z,.inl hy,Step.refl K Z w,fun _ _=>rfl,h1,by rw [Zbt hzk];exact hg,hr,hm,fun b hb=>hkl b (hzk b hb)⟩⟩
section
variable {P:Program} {K Z:Nat→Prop} {ν:Nat→Value} {w:World} {get:Operand→AV} {ev:Operand→Value} {μ:Nat→Bool} {rs:Rs}
theorem Zds (hkl:∀ b,K b→b < w.heap.size) (o:Obj):Step K Z w Z (w.alloc o) :=
 ⟨⟨rfl,rfl,rfl,by simp,fun b hb=>RowKit.Below.heap_alloc _ _ _ (hkl b hb)⟩,fun _ h=>h,fun _ h=>.inl h⟩
theorem Zbi (o:Obj) {y:Nat} (hy:y < w.heap.size):(w.alloc o).heap[y]? = w.heap[y]?:=RowKit.Below.heap_alloc _ _ _ hy
theorem Zd3 (o:Obj):(w.alloc o).heap[w.heap.size]? = some o:=World.alloc_heap_new w o
theorem Zew (h:GoodRs K Z w ν μ rs) (hzk:∀ b,Z b→K b) (hkl:∀ b,K b→b < w.heap.size) {kn:Nat} (hk:μ kn=false) {w':World} (hsz:w.heap.size≤w'.heap.size) (hold:∀ y,y < w.heap.size→w'.heap[y]? = w.heap[y]?) {x:Value} {B:Blk} {F:Nat→Prop}
  (hs:sat Z w' (upN ν kn x) x F B) (hm:menB (addK μ (some kn)) B) (hF:∀ y,F y→w.heap.size≤y∧y < w'.heap.size):GoodRs K Z w' (upN ν kn x) (addK μ (some kn)) (updL rs [(kn,some B)]):=by
 obtain ⟨Ft,h⟩:=h
 refine ⟨fun k=>if k=kn then F else Ft k,fun k b hkb=>?_⟩
 have hold':∀ k b,k≠kn→updL rs [(kn,some B)] k=some b→rs k=some b:=by
  intro k b hne hkb
  have:lko [(kn,some B)] k=none:=Zgu (by intro p hp;simp at hp;subst hp;exact Ne.symm hne)
  simp only [updL,this] at hkb
  exact hkb
 by_cases hkk:k=kn
 ·subst hkk
  have:updL rs [(k,some B)] k=some B:=by simp [updL,lko,Nat.beq_refl]
  rw [this] at hkb
  obtain rfl:B=b:=Option.some.inj hkb
  dsimp only
  rw [if_pos rfl,upN_same]
  refine ⟨Zbz,hm,hs,fun y hy=>⟨fun hK=>?_,(hF y hy).2⟩,fun k' b' hne hk' y hy=>?_⟩
  ·have:=hkl y hK;have:=(hF y hy).1;omega
  ·have h0:=hold' k' b' (Ne.symm hne) hk'
   rw [if_neg (Ne.symm hne)]
   intro hf
   have:=((h k' b' h0).2.2.2.1 y hf).2
   have:=(hF y hy).1
   omega
 ·have h0:=hold' k b hkk hkb
  obtain ⟨g1,g2,g3,g4,g5⟩:=h k b h0
  simp only [if_neg hkk]
  rw [Zfn hkk]
  refine ⟨Zci k g1,Zdo Zci g2,Zbl (fun _ h=>h) (fun b hb=>hold b (hkl b (hzk b hb))) (fun y hy=>hold y (g4 y hy).2) (Zet (Zcd hk) g2 g3),fun y hy=>⟨(g4 y hy).1,Nat.lt_of_lt_of_le (g4 y hy).2 hsz⟩,fun k' b' hne hk' y hy=>?_⟩
  by_cases hk2:k'=kn
  ·subst hk2
   rw [if_pos rfl]
   intro hf
   have:=(hF y hf).1;have:=(g4 y hy).2;omega
  ·rw [if_neg hk2]
   exact g5 k' b' hne (hold' k' b' hk2 hk') y hy
theorem Zgv (h:GoodRs K Z w ν μ rs) (hzk:∀ b,Z b→K b) (hkl:∀ b,K b→b < w.heap.size) {k0:Nat} {b0:Blk} (hk0:rs k0=some b0) :
  ∃ F0,sat Z w ν (ν k0) F0 b0∧menB μ b0∧μ k0=true∧(∀ y,F0 y→¬ K y∧y < w.heap.size) ∧
   ∀ (w':World) (ν':Nat→Value) (kn:Nat) (B:Blk) (F':Nat→Prop),w.heap.size≤w'.heap.size→(∀ y,¬ F0 y→y < w.heap.size→w'.heap[y]? = w.heap[y]?)→(∀ k,μ k=true→ν' k=ν k)→(kn=k0∨μ kn=false) →
    sat Z w' ν' (ν' kn) F' B→menB (addK μ (some kn)) B→(∀ y,F' y→(F0 y∨w.heap.size≤y)∧y < w'.heap.size)→GoodRs K Z w' ν' (addK μ (some kn)) (updL rs [(kn,some B),(k0,none)]):=by
 obtain ⟨Ft,h⟩:=h
 obtain ⟨a1,a2,a3,a4,a5⟩:=h k0 b0 hk0
 refine ⟨Ft k0,a3,a2,a1,a4,?_⟩
 intro w' ν' kn B F' hsz hold hν hkn hs hm hF
 have hold':∀ k b,k≠kn→updL rs [(kn,some B),(k0,none)] k=some b→rs k=some b∧k≠k0:=by
  intro k b hne hkb
  by_cases hk:k=k0
  ·subst hk
   have hb:Nat.beq k kn=false:=by cases hb:Nat.beq k kn with
    |false=>rfl
    |true=>exact absurd (Nat.eq_of_beq_eq_true hb) hne
   simp [updL,lko,hb,Nat.beq_refl] at hkb
  ·have:lko [(kn,some B),(k0,none)] k=none:=Zgu (by intro p hp;simp at hp;rcases hp with rfl|rfl<;>first|exact Ne.symm hne|exact Ne.symm hk)
   simp only [updL,this] at hkb
   exact ⟨hkb,hk⟩
 refine ⟨fun k=>if k=kn then F' else Ft k,fun k b hkb=>?_⟩
 by_cases hkk:k=kn
 ·subst hkk
  have:updL rs [(k,some B),(k0,none)] k=some B:=by simp [updL,lko,Nat.beq_refl]
  rw [this] at hkb
  obtain rfl:B=b:=Option.some.inj hkb
  dsimp only
  rw [if_pos rfl]
  refine ⟨Zbz,hm,hs,fun y hy=>⟨fun hK=>?_,(hF y hy).2⟩,fun k' b' hne hk' y hy=>?_⟩
  ·rcases (hF y hy).1 with h1|h1
   ·exact (a4 y h1).1 hK
   ·have:=hkl y hK;omega
  ·obtain ⟨h0,hne0⟩:=hold' k' b' (Ne.symm hne) hk'
   rw [if_neg (Ne.symm hne)]
   intro hf
   rcases (hF y hy).1 with h1|h1
   ·exact a5 k' b' (Ne.symm hne0) h0 y h1 hf
   ·have:=((h k' b' h0).2.2.2.1 y hf).2;omega
 ·obtain ⟨h0,hne0⟩:=hold' k b hkk hkb
  obtain ⟨g1,g2,g3,g4,g5⟩:=h k b h0
  have hap:∀ y,Ft k y→¬ Ft k0 y:=fun y hy=>g5 k0 b0 hne0 hk0 y hy
  simp only [if_neg hkk]
  rw [hν k g1]
  refine ⟨Zci k g1,Zdo Zci g2,Zbl (fun _ h=>h) (fun b hb=>hold b (fun hf=>(a4 b hf).1 (hzk b hb)) (hkl b (hzk b hb))) (fun y hy=>hold y (hap y hy) (g4 y hy).2) (Zet hν g2 g3),
   fun y hy=>⟨(g4 y hy).1,Nat.lt_of_lt_of_le (g4 y hy).2 hsz⟩,fun k' b' hne hk' y hy=>?_⟩
  by_cases hk2:k'=kn
  ·subst hk2
   rw [if_pos rfl]
   intro hf
   rcases (hF y hf).1 with h1|h1
   ·exact hap y hy h1
   ·have:=(g4 y hy).2;omega
  ·rw [if_neg hk2]
   exact g5 k' b' hne (hold' k' b' hk2 hk').1 y hy
end
open Go
section
variable {P:Program} {w:World}
theorem row_set {x:Value} {sz n:Nat} {g:Nat→List Value→Prop} {F:Nat→Prop} (h:row w x sz n g F) {i o:Nat} (hi:i < n) {vs:List Value} (ho:o+vs.length≤sz) (h1:∀ v,v∈vs→v.oneCell'=true) :
  ∃ b f,Zgk x=some (b,f)∧F b∧(storeCells ⟨b,f+(i * sz+o),none⟩ vs).run P w=.ok () (w.setRow b (match w.heap[b]? with|some (.cells c _ _)=>(c.toList.take (f+(i * sz+o))++vs++c.toList.drop (f+(i * sz+o)+vs.length)).toArray|_ => #[])) ∧
   ∀ w',w'=(w.setRow b (match w.heap[b]? with|some (.cells c _ _)=>(c.toList.take (f+(i * sz+o))++vs++c.toList.drop (f+(i * sz+o)+vs.length)).toArray|_ => #[])) →
    (∀ y,y≠b→w'.heap[y]? = w.heap[y]?)∧w'.heap.size=w.heap.size∧w'.os=w.os∧w'.tape=w.tape∧w'.output=w.output ∧
    row w' x sz n (fun j es=>∃ es0,g j es0∧es0.length=sz∧es=if j=i then es0.take o++vs++es0.drop (o+vs.length) else es0) F:=by
 rcases h with ⟨_,h0,_⟩|⟨b,f,cap,cells,T,hx,hc1,hc2,hh,hsz,hF,hel⟩
 ·omega
 ·subst hx
  have hcap:i * sz+sz≤cap * sz:=by
   rw [←Nat.succ_mul];exact Nat.mul_le_mul_right _ (by omega)
  have hrun:=run_storeCells_at (P:=P) b (f+(i * sz+o)) T vs 0 cells w hh (by omega) h1
  simp only [Nat.add_zero] at hrun
  refine ⟨b,f,rfl,(hF b).2 rfl,by rw [hh];exact hrun,?_⟩
  rintro w' rfl
  rw [hh]
  refine ⟨fun y hy=>setRow_other w b y _ hy,by simp,rfl,rfl,rfl,?_⟩
  have hnew:=setRow_heap w b cells (cells.toList.take (f+(i * sz+o))++vs++cells.toList.drop (f+(i * sz+o)+vs.length)).toArray T (0,0) hh
  refine .inr ⟨b,f,cap,_,T,rfl,hc1,hc2,hnew,by simp;omega,hF,fun j hj=>?_⟩
  obtain ⟨es0,e1,e2,e3⟩:=hel j hj
  refine ⟨_,⟨es0,e1,e2,rfl⟩,?_,fun q c hq=>?_⟩
  ·split
   ·simp;omega
   ·exact e2
  ·simp only [List.getElem?_toArray]
   by_cases hji:j=i
   ·subst hji
    rw [if_pos rfl] at hq
    by_cases hq1:q < o
    ·rw [List.append_assoc,List.getElem?_append_left (by simp;omega),List.getElem?_take,if_pos hq1] at hq
     rw [List.append_assoc,List.getElem?_append_left (by simp;omega),List.getElem?_take,if_pos (by omega)]
     have:=e3 q c hq
     simpa using this
    ·by_cases hq2:q < o+vs.length
     ·rw [List.append_assoc,List.getElem?_append_right (by simp;omega),List.getElem?_append_left (by simp;omega)] at hq
      rw [List.append_assoc,List.getElem?_append_right (by simp;omega),List.getElem?_append_left (by simp;omega)]
      have ea:q - (List.take o es0).length=q - o:=by simp;omega
      have eb:f+(j * sz+q) - (List.take (f+(j * sz+o)) cells.toList).length=q - o:=by simp;omega
      rw [ea] at hq;rw [eb];exact hq
     ·rw [List.append_assoc,List.getElem?_append_right (by simp;omega),List.getElem?_append_right (by simp;omega),List.getElem?_drop] at hq
      rw [List.append_assoc,List.getElem?_append_right (by simp;omega),List.getElem?_append_right (by simp;omega),List.getElem?_drop]
      have ea:o+vs.length+(q - (List.take o es0).length - vs.length)=q:=by simp;omega
      have eb:f+(j * sz+o)+vs.length+(f+(j * sz+q) - (List.take (f+(j * sz+o)) cells.toList).length - vs.length)=f+(j * sz+q):=by simp;omega
      rw [ea] at hq;rw [eb]
      simpa using e3 q c hq
   ·rw [if_neg hji] at hq
    have hqs:q < sz:=by rw [←e2];exact (List.getElem?_eq_some_iff.1 hq).1
    have:=e3 q c hq
    rcases Nat.lt_or_ge j i with hlt|hge
    ·have hm:j * sz+sz≤i * sz:=by rw [←Nat.succ_mul];exact Nat.mul_le_mul_right _ hlt
     rw [List.append_assoc,List.getElem?_append_left (by simp;omega),List.getElem?_take,if_pos (by omega)]
     simpa using this
    ·have hgt:i < j:=by omega
     have hm:i * sz+sz≤j * sz:=by rw [←Nat.succ_mul];exact Nat.mul_le_mul_right _ hgt
     rw [List.append_assoc,List.getElem?_append_right (by simp;omega),List.getElem?_append_right (by simp;omega),List.getElem?_drop]
     have eb:f+(i * sz+o)+vs.length+(f+(j * sz+q) - (List.take (f+(i * sz+o)) cells.toList).length - vs.length)=f+(j * sz+q):=by simp;omega
     rw [eb]
     simpa using this
theorem Zfi (sz m:Nat) (A:Option Addr) (c:Nat) (news:List Value) (hl:news.length=m * sz) (hA:∀ ad,A=some ad→∀ j u,news[j]? = some u→w.cell? (ad.add j)=some u) (hn:A=none→news=[]) :
  (Builtin.firstCells sz m (.slice A m c)).run P w=.ok news.toArray w:=by
 cases A with
 |none=>simp [Builtin.firstCells,hn rfl,Sem.run]
 |some ad =>
  have:=run_loadCells_list (P:=P) w ad news (hA ad rfl)
  rw [hl] at this
  simpa [Builtin.firstCells] using this
theorem row_append {t e ty:Nat} {i ie:TI} (ht:TOK P t i) (hk:i.k=.slc e) (he:TOK P e ie) {x:Value} {n:Nat} {g:Nat→List Value→Prop} {F:Nat→Prop} (h:row w x ie.size n g F) (hsz:0 < ie.size)
  {A:Option Addr} {m c:Nat} {news:List Value} (hl:news.length=m * ie.size) (hA:∀ ad,A=some ad→∀ j u,news[j]? = some u→w.cell? (ad.add j)=some u) (hn:A=none→news=[]) (h1:∀ v,v∈news→v.oneCell'=true)
  (hlim:n+m≤lim) (hb:(n+m) * ie.bytes≤lim) (hFw:∀ y,F y→y < w.heap.size) :
  ∃ x' w' F',(Builtin.append_ #[t,t] ty #[x,.slice A m c]).run P w=.ok x' w'∧row w' x' ie.size (n+m) (fun j es=>if j < n then g j es else es=(news.drop ((j - n) * ie.size)).take ie.size) F' ∧
   (∀ y,¬ F y→y < w.heap.size→w'.heap[y]? = w.heap[y]?)∧w.heap.size≤w'.heap.size∧w'.os=w.os∧w'.tape=w.tape∧w'.output=w.output∧(∀ y,F' y→(F y∨w.heap.size≤y)∧y < w'.heap.size)∧x'.oneCell'=true:=by
 obtain ⟨inf,hi1,hi2,hi3,z,hz1,hzs,_,_,hz2⟩:=he.info
 have hu:(underlying t).run P w=.ok (.slice e) w:=run_underlying (ht.slc e hk) w
 have hsize:(sizeOf e).run P w=.ok ie.size w:=Zc9 he w
 have hlim':lim=140737488355328:=rfl
 have hf:=Zfi (P:=P) (w:=w) ie.size m A c news hl hA hn
 obtain ⟨B,cap,hx⟩:=Zkr h
 subst hx
 by_cases hroom:n+m≤cap
 · -- in place
  rcases h with ⟨hnil,hn0,hF0⟩|⟨b,f,cap',cells,T,hx,hc1,hc2,hh,hcs,hF,hel⟩
  ·simp only [Value.slice.injEq] at hnil
   obtain ⟨rfl,rfl,rfl⟩:=hnil
   obtain rfl:m=0:=by omega
   have hnn:news=[]:=List.eq_nil_of_length_eq_zero (by simpa using hl)
   subst hnn
   refine ⟨.slice none 0 0,w,F,?_,.inl ⟨rfl,rfl,hF0⟩,fun _ _ _=>rfl,Nat.le_refl _,rfl,rfl,rfl,fun y hy=>absurd hy (hF0 y),rfl⟩
   simp [Builtin.append_,Sem.run_bind,hu,hsize,Result.andThen,Builtin.lenOf,hf,Sem.run]
  ·simp only [Value.slice.injEq] at hx
   obtain ⟨rfl,_,rfl⟩:=hx
   have hmul:(n+m) * ie.size≤cap * ie.size:=Nat.mul_le_mul_right _ hroom
   have hadd:(n+m) * ie.size=n * ie.size+m * ie.size:=Nat.add_mul ..
   have hst:=run_storeCells_at (P:=P) b (f+n * ie.size) T news 0 cells w hh (by omega) h1
   simp only [Nat.add_zero] at hst
   have ead:(⟨b,f,none⟩:Addr).add (n * ie.size)=⟨b,f+n * ie.size,none⟩:=Addr.add_lit ..
   have hnew:=setRow_heap w b cells (cells.toList.take (f+n * ie.size)++news++cells.toList.drop (f+n * ie.size+news.length)).toArray T (0,0) hh
   refine ⟨.slice (some ⟨b,f,none⟩) (n+m) cap,_,F,?_,.inr ⟨b,f,cap,_,T,rfl,hroom,by omega,hnew,by simp;omega,hF,fun j hj=>?_⟩,fun y hy _=>setRow_other w b y _ (fun e=>hy ((hF y).2 e)),by simp,rfl,rfl,rfl,fun y hy=>⟨.inl hy,by simp;exact hFw y hy⟩,rfl⟩
   ·simp [Builtin.append_,Sem.run_bind,hu,hsize,Result.andThen,Builtin.lenOf,hf,hroom,ead,hst,Sem.run]
   ·by_cases hjn:j < n
    ·obtain ⟨es,e1,e2,e3⟩:=hel j hjn
     have hm:j * ie.size+ie.size≤n * ie.size:=by rw [←Nat.succ_mul];exact Nat.mul_le_mul_right _ hjn
     refine ⟨es,by dsimp only;rw [if_pos hjn];exact e1,e2,fun q v hq=>?_⟩
     have hqs:q < ie.size:=by rw [←e2];exact (List.getElem?_eq_some_iff.1 hq).1
     simp only [List.getElem?_toArray]
     rw [List.append_assoc,List.getElem?_append_left (by simp;omega),List.getElem?_take,if_pos (by omega)]
     simpa using e3 q v hq
    ·have hm:(j - n) * ie.size+ie.size≤m * ie.size:=by rw [←Nat.succ_mul];exact Nat.mul_le_mul_right _ (by omega)
     have hj2:j * ie.size=n * ie.size+(j - n) * ie.size:=by rw [←Nat.add_mul];congr 1;omega
     refine ⟨_,by dsimp only;rw [if_neg hjn],by simp;omega,fun q v hq=>?_⟩
     have hqs:q < ie.size:=by have:=(List.getElem?_eq_some_iff.1 hq).1;simp at this;omega
     rw [List.getElem?_take,if_pos hqs,List.getElem?_drop] at hq
     simp only [List.getElem?_toArray]
     rw [List.append_assoc,List.getElem?_append_right (by simp;omega),List.getElem?_append_left (by simp;omega)]
     rw [show f+(j * ie.size+q) - (List.take (f+n * ie.size) cells.toList).length=(j - n) * ie.size+q from by simp;omega]
     exact hq
 · -- a new block
  have hold:∃ old:List Value,old.length=n * ie.size∧(Builtin.firstCells ie.size n (.slice B n cap)).run P w.drew=.ok old.toArray w.drew∧∀ j,j < n→∃ es,g j es∧es.length=ie.size∧∀ (q:Nat) v,es[q]? = some v→old[j * ie.size+q]? = some v:=by
   rcases h with ⟨hnil,hn0,hF0⟩|⟨b,f,cap',cells,T,hx,hc1,hc2,hh,hcs,hF,hel⟩
   ·simp only [Value.slice.injEq] at hnil
    obtain ⟨rfl,rfl,rfl⟩:=hnil
    exact ⟨[],by simp,by simp [Builtin.firstCells,Sem.run],fun j hj=>by omega⟩
   ·simp only [Value.slice.injEq] at hx
    obtain ⟨rfl,_,rfl⟩:=hx
    have hmul:n * ie.size≤cap * ie.size:=Nat.mul_le_mul_right _ hc1
    refine ⟨(cells.toList.drop f).take (n * ie.size),by simp;omega,?_,fun j hj=>?_⟩
    ·refine Zfi ie.size n _ cap _ (by simp;omega) (fun ad had j u hu=>?_) (by simp)
     simp only [Option.some.injEq] at had
     subst had
     have hjl:j < n * ie.size:=by have:=(List.getElem?_eq_some_iff.1 hu).1;simp at this;omega
     rw [List.getElem?_take,if_pos hjl,List.getElem?_drop] at hu
     rw [Addr.add_lit,World.cell?_drew]
     exact Zey hh (by simpa using hu)
    ·obtain ⟨es,e1,e2,e3⟩:=hel j hj
     have hm:j * ie.size+ie.size≤n * ie.size:=by rw [←Nat.succ_mul];exact Nat.mul_le_mul_right _ hj
     refine ⟨es,e1,e2,fun q v hq=>?_⟩
     have hqs:q < ie.size:=by rw [←e2];exact (List.getElem?_eq_some_iff.1 hq).1
     rw [List.getElem?_take,if_pos (by omega),List.getElem?_drop]
     simpa using e3 q v hq
  obtain ⟨old,ho1,ho2,ho3⟩:=hold
  have hf2:(Builtin.firstCells ie.size m (.slice A m c)).run P w.drew=.ok news.toArray w.drew:=Zfi (w:=w.drew) ie.size m A c news hl (fun ad had j u hu=>by rw [World.cell?_drew];exact hA ad had j u hu) hn
  have hcapn:cap < n+m:=by omega
  have hfit:=growslice_fits (bytes:=ie.bytes) hcapn (by omega)
  have hneed:¬ ((n+m:Nat):Int) > IntKind.i64.max:=by
   have:IntKind.i64.max=9223372036854775807:=by decide
   rw [this];omega
  have hti:∀ w:World,(typeInfo e).run P w=.ok inf w:=fun w=>by simp [typeInfo,Sem.run_bind,hi1,Result.andThen,program,Sem.run]
  have hzv:∀ w:World,(zeroValue e).run P w=.ok z w:=fun w=>by simp [zeroValue,Sem.run_bind,hti,hz1,Result.andThen,Sem.run]
  let nc:=grownCap w (n+m) cap e
  have hnc:n+m≤nc:=grownCap_ge w _ _ _
  have hz:z.cells.size=ie.size:=hzs
  let rest:=Builtin.zeroCells z.cells (nc - (n+m))
  have hrest:rest.size=(nc - (n+m)) * ie.size:=by simp [rest,Builtin.zeroCells,hz]
  refine ⟨.slice (some ⟨w.heap.size,0,none⟩) (n+m) nc,w.drew.alloc (.cells (old.toArray++news.toArray++rest) e),fun y=>y=w.heap.size,?_,.inr ⟨w.heap.size,0,nc,_,e,rfl,hnc,by omega,Zd3 (w:=w.drew) _,?_,fun _=>Iff.rfl,fun j hj=>?_⟩,
   fun y _ hy=>Zbi (w:=w.drew) _ hy,by simp,rfl,rfl,rfl,fun y hy=>by subst hy;exact ⟨.inr (Nat.le_refl _),by simp⟩,rfl⟩
  ·have hdrew:∀ q:Question,(choose q).run P w=if q.forced then .ok 0 w else .ok (q.cut (w.tape w.drawn q)) w.drew:=fun q=>rfl
   have hch:(choose (.appendCap (n+m) cap e)).run P w=.ok nc w.drew:=rfl
   have hask:∀ (k:Nat) (w:World),(askRoom k).run P w=.ok () w:=fun k w=>by
    unfold askRoom;split<;>simp [mark,Sem.run]
   simp only [Builtin.append_,Sem.run_bind,Sem.run_pure,hu,hsize,Result.andThen_ok,List.getElem?_toArray,List.getElem?_cons_zero,List.getElem?_cons_succ,Builtin.lenOf]
   have hzf:(match (TypeDesc.slice e:TypeDesc) with | .int _=>true|_=>false)=false:=rfl
   simp only [hu,Result.andThen_ok,Bool.false_eq_true,if_false,Sem.run_bind,Sem.run_pure,Builtin.lenOf,hroom]
   have hn1:¬ (9223372036854775807:Int) < (n:Int)+(m:Int):=by omega
   have hfit':¬ 281474976710656 < Builtin.nextslicecap (n+m) cap * ie.bytes:=by omega
   have hfo:(Question.appendCap (n+m) cap e).forced=false:=rfl
   simp [hn1,hfit',hfo,hti,hi3,hch,hask,ho2,hf2,hzv,Sem.run_bind,Result.andThen,Sem.run,newRow,newObj,rest,hroom]
   refine ⟨rfl,?_⟩
   have e1:(Question.appendCap (n+m) cap e).cut (w.tape w.drawn (Question.appendCap (n+m) cap e))=nc:=rfl
   rw [e1]
   have e2:old.toArray++(news.toArray++Builtin.zeroCells z.cells (nc - (n+m)))=(old++news).toArray++Builtin.zeroCells z.cells (nc - (n+m)):=by apply Array.ext';simp
   rw [e2]
   rfl
  ·simp [ho1,hl,hrest]
   have:nc=(n+m)+(nc - (n+m)):=by omega
   rw [this,Nat.add_mul,Nat.add_mul]
   simp
  ·by_cases hjn:j < n
   ·obtain ⟨es,e1,e2,e3⟩:=ho3 j hjn
    refine ⟨es,by dsimp only;rw [if_pos hjn];exact e1,e2,fun q v hq=>?_⟩
    have:=e3 q v hq
    have hlt:=(List.getElem?_eq_some_iff.1 this).1
    simp only [Nat.zero_add]
    rw [Array.getElem?_append_left (by simp;omega),Array.getElem?_append_left (by simpa using hlt)]
    simpa using this
   ·have hm:(j - n) * ie.size+ie.size≤m * ie.size:=by rw [←Nat.succ_mul];exact Nat.mul_le_mul_right _ (by omega)
    have hj2:j * ie.size=n * ie.size+(j - n) * ie.size:=by rw [←Nat.add_mul];congr 1;omega
    refine ⟨_,by dsimp only;rw [if_neg hjn],by simp;omega,fun q v hq=>?_⟩
    have hqs:q < ie.size:=by have:=(List.getElem?_eq_some_iff.1 hq).1;simp at this;omega
    rw [List.getElem?_take,if_pos hqs,List.getElem?_drop] at hq
    simp only [Nat.zero_add]
    rw [Array.getElem?_append_left (by simp;omega),Array.getElem?_append_right (by simp;omega)]
    rw [show j * ie.size+q - old.toArray.size=(j - n) * ie.size+q from by simp;omega]
    simpa using hq
end
open Go
section
variable {P:Program} {K Z:Nat→Prop} {ν:Nat→Value} {w:World} {get:Operand→AV} {ev:Operand→Value} {μ:Nat→Bool} {rs:Rs} {tb:Nat→Option TI}
theorem cells_false {u:AV} {v:Value} (h1:∀ k,(ν k).oneCell'=true) (hc:isC u=true) (h:R Z w u ν true [v]):R Z w u ν false v.cells.toList:=by
 cases hu:isAg u with
 |true=>cases u<;>first|(cases hu;done)|(obtain ⟨es,e,r⟩:=h;obtain rfl:=one1 e;exact r)
 |false=>rw [(Zd8 h1 hc hu h).2];exact (Znf hu).2 h
theorem opsem_alloc {o:Oper} {t:Nat} {i:TI} (ho:o.op=.alloc t) (ht:TOK P t i) (hm:men noK i.zero=true) (kn:Nat):OpSem P o get (.own kn) [] [(kn,some (.box i.zero))] (some kn) :=
 ⟨fun K Z ν w ev μ rs h1 hg hzk hkl hx hrd hkn=>by
  obtain ⟨inf,hi1,hi2,hi3,z,hz1,hzs,_,_,hz2⟩:=ht.info
  have hk:=hkn kn rfl
  refine ⟨.pointer (some ⟨w.heap.size,0,none⟩),w.alloc (.cells z.cells t),upN ν kn (.pointer (some ⟨w.heap.size,0,none⟩)),Z,.inl ?_,Zds hkl _,Zcd hk,Zdm h1 rfl,?_,?_,Zbz,fun b hb=>by have:=hkl b (hzk b hb);simp;omega⟩
  ·simp [execOp,ho,Instr.alloc,zeroValue,typeInfo,newVar,newRow,newObj,Sem.run_bind,hi1,hz1,Result.andThen,program,Sem.run]
  ·rw [Zbt hzk]
   exact Zew (F:=fun y=>y=w.heap.size) hg hzk hkl hk (by simp) (fun y hy=>Zbi _ hy) ⟨w.heap.size,z.cells,t,rfl,Zd3 _,hz2 _ _ _,fun _=>Iff.rfl⟩ (Zce hm) (fun y hy=>by subst hy;simp)
  ·show [_]=[_];rw [upN_same]⟩
theorem opsem_box {o:Oper} {t:Nat} {x:Operand} (ho:o.op=.box t x) (hc:isC (get x)=true) (kn:Nat):OpSem P o get (.own kn) [] [(kn,some (.box (get x)))] (some kn) :=
 ⟨fun K Z ν w ev μ rs h1 hg hzk hkl hx hrd hkn=>by
  have hk:=hkn kn rfl
  obtain ⟨hr,hm⟩:=hx x (by rw [ho];simp [Op.operands])
  have hs:=Zds (Z:=Z) hkl (.cells (ev x).cells t)
  refine ⟨.pointer (some ⟨w.heap.size,0,none⟩),w.alloc (.cells (ev x).cells t),upN ν kn (.pointer (some ⟨w.heap.size,0,none⟩)),Z,.inl ?_,hs,Zcd hk,Zdm h1 rfl,?_,?_,Zbz,fun b hb=>by have:=hkl b (hzk b hb);simp;omega⟩
  ·simp [execOp,ho,Instr.box,newVar,newRow,newObj,Sem.run_bind,Result.andThen,Sem.run]
  ·rw [Zbt hzk]
   exact Zew (F:=fun y=>y=w.heap.size) hg hzk hkl hk (by simp) (fun y hy=>Zbi _ hy)
    ⟨w.heap.size,(ev x).cells,t,rfl,Zd3 _,R_nu (Zcd hk) hm (Zbc (fun _ h=>h) (fun b hb=>Zbi _ (hkl b (hzk b hb))) (cells_false h1 hc hr)),fun _=>Iff.rfl⟩ (Zdt Zci hm) (fun y hy=>by subst hy;simp)
  ·show [_]=[_];rw [upN_same]⟩
theorem opsem_boxR {o:Oper} {t:Nat} {x:Operand} (ho:o.op=.box t x) (hc:isC (get x)=true) (hn:men noK (get x)=true):OpSem P o get (.rop (get x)) [] [] none :=
 ⟨fun K Z ν w ev μ rs h1 hg hzk hkl hx hrd hkn=>by
  obtain ⟨hr,hm⟩:=hx x (by rw [ho];simp [Op.operands])
  have hs:=Zds (Z:=Z) hkl (.cells (ev x).cells t)
  have hZ:∀ b,(Z b∨b=w.heap.size)→b < w.heap.size+1:=fun b hb=>hb.elim (fun h=>by have:=hkl b (hzk b h);omega) (fun h=>by omega)
  refine ⟨.pointer (some ⟨w.heap.size,0,none⟩),w.alloc (.cells (ev x).cells t),ν,fun b=>Z b∨b=w.heap.size,.inl ?_,⟨hs.ext,fun _ h=>.inl h,fun b hb=>hb.imp id (fun e hK=>by have:=hkl b hK;omega)⟩,fun _ _=>rfl,h1,?_,?_,rfl,fun b hb=>by simpa using hZ b hb⟩
  ·simp [execOp,ho,Instr.box,newVar,newRow,newObj,Sem.run_bind,Result.andThen,Sem.run]
  ·exact hg.mono (fun _ h=>.inl h) (fun b hb=>Zbi _ (hkl b (hzk b hb))) (by simp) (fun b hb=>by
    rcases hb with h|h|h
    ·exact .inl h
    ·exact .inl (hzk b h)
    ·exact .inr (by omega)) (fun b _ hb=>Zbi _ hb)
  ·refine ⟨w.heap.size,0,rfl,.inr rfl,hn,(ev x).cells.toList,Zdi hn (Zbc (fun _ h=>.inl h) (fun b hb=>Zbi _ (hkl b (hzk b hb))) (cells_false h1 hc hr)),fun j c hj=>?_⟩
   rw [Nat.zero_add]
   exact Zey (Zd3 _) (by simpa using hj)⟩
theorem run_make {t e:Nat} {i ie:TI} (ht:TOK P t i) (hk:i.k=.slc e) (he:TOK P e ie) {n:Int} (h0:0≤n) (hn:n≤1000000000) (hb:ie.bytes≤1000) (hsz:0 < ie.size) (w:World) :
  ∃ x w',(Instr.makeSlice t (.int .i64 n) (.int .i64 n)).run P w=.ok x w'∧w'.heap.size=w.heap.size+1∧(∀ y,y < w.heap.size→w'.heap[y]? = w.heap[y]?)∧w'.os=w.os∧w'.tape=w.tape∧w'.output=w.output∧x.oneCell'=true ∧
   ∃ z:Value,(∀ Z ν w,R Z w ie.zero ν false z.cells.toList)∧z.cells.size=ie.size∧row w' x ie.size n.toNat (fun _ es=>es=z.cells.toList) (fun y=>y=w.heap.size):=by
 obtain ⟨inf,hi1,hi2,hi3,z,hz1,hzs,_,_,hz2⟩:=he.info
 have hti:∀ w:World,(typeInfo e).run P w=.ok inf w:=fun w=>by simp [typeInfo,Sem.run_bind,hi1,Result.andThen,program,Sem.run]
 have hzv:∀ w:World,(zeroValue e).run P w=.ok z w:=fun w=>by simp [zeroValue,Sem.run_bind,hti,hz1,Result.andThen,Sem.run]
 have hsize:∀ w:World,(sizeOf e).run P w=.ok ie.size w:=fun w=>Zc9 he w
 have hw:IntKind.i64.wrap n=n:=IntWalk.i64_in n (by omega)
 have hmul:(ie.bytes:Int) * n≤1000 * 1000000000:=by
  have h1:(ie.bytes:Int)≤1000:=by omega
  calc (ie.bytes:Int) * n≤1000 * n:=Int.mul_le_mul_of_nonneg_right h1 h0
   _≤1000 * 1000000000:=by omega
 have hask:∀ (k:Nat) (w:World),(askRoom k).run P w=.ok () w:=fun k w=>by
  unfold askRoom;split<;>simp [mark,Sem.run]
 let cells:Array Value:=if n.toNat * ie.size=0 then (Array.range (n.toNat * ie.size)).map ((#[]:Array Value)[· % 0]!) else (Array.range (n.toNat * ie.size)).map (z.cells[· % z.cells.size]!)
 have hcs:cells.size=n.toNat * ie.size:=by simp only [cells];split<;>simp
 refine ⟨.slice (some ⟨w.heap.size,0,none⟩) n.toNat n.toNat,w.alloc (.cells cells e),?_,by simp,fun y hy=>Zbi _ hy,rfl,rfl,rfl,rfl,z,fun Z ν w=>hz2 Z w ν,hzs,.inr ⟨w.heap.size,0,n.toNat,cells,e,rfl,Nat.le_refl _,by simp only [lim];omega,Zd3 _,by omega,fun _=>Iff.rfl,fun j hj=>?_⟩⟩
 ·have hc1:¬ n < 0:=by omega
  have hc2:¬ (ie.bytes:Int) * n > 281474976710656:=by omega
  by_cases h00:n.toNat * ie.size=0
  ·have hn0:n.toNat=0:=by rcases Nat.mul_eq_zero.1 h00 with h|h<;>omega
   simp [Instr.makeSlice,Sem.run_bind,run_underlying (ht.slc e hk),asInt,asIntOf,hti,hw,hc1,hc2,hi3,hask,hsize,hn0,newRow,newObj,Result.andThen,Sem.run,cells]
  ·simp [Instr.makeSlice,Sem.run_bind,run_underlying (ht.slc e hk),asInt,asIntOf,hti,hw,hc1,hc2,hi3,hask,hsize,h00,hzv,newRow,newObj,Result.andThen,Sem.run,cells]
 ·have hpos:¬ n.toNat * ie.size=0:=by
   intro h;rcases Nat.mul_eq_zero.1 h with h|h<;>omega
  have hm:j * ie.size+ie.size≤n.toNat * ie.size:=by rw [←Nat.succ_mul];exact Nat.mul_le_mul_right _ hj
  refine ⟨_,rfl,by simpa using hzs,fun q c hq=>?_⟩
  have hqs:q < ie.size:=by have:=(List.getElem?_eq_some_iff.1 hq).1;simp [hzs] at this;exact this
  have hmod:(j * ie.size+q) % ie.size=q:=by rw [Nat.mul_comm,Nat.mul_add_mod];exact Nat.mod_eq_of_lt hqs
  have hq2:z.cells[q]? = some c:=by simpa using hq
  obtain ⟨hq3,hq4⟩:=Array.getElem?_eq_some_iff.1 hq2
  simp only [cells,if_neg hpos,Nat.zero_add]
  rw [Array.getElem?_map,Array.getElem?_range,if_pos (by omega)]
  simp only [Option.map_some,hzs,hmod]
  rw [getElem!_pos z.cells q (by omega),hq4]
theorem opsem_make {o:Oper} {t e:Nat} {i ie:TI} {l c:Operand} (ho:o.op=.makeSlice t l c) (ht:TOK P t i) (hk:i.k=.slc e) (he:TOK P e ie) {n:Int} (hl:get l=.int .i64 n) (hc:get c=.int .i64 n) (h0:0≤n) (hn:n≤1000000000) (hb:ie.bytes≤1000) (hsz:0 < ie.size)
  (kn:Nat) {B:Blk} (hB:∀ (Z:Nat→Prop) (w:World) (ν:Nat→Value) (x:Value) (F:Nat→Prop) (z:Value),(∀ Z ν w,R Z w ie.zero ν false z.cells.toList)→z.cells.size=ie.size→row w x ie.size n.toNat (fun _ es=>es=z.cells.toList) F→sat Z w ν x F B) (hBm:∀ μ,menB μ B) :
  OpSem P o get (.own kn) [] [(kn,some B)] (some kn) :=
 ⟨fun K Z ν w ev μ rs h1 hg hzk hkl hx hrd hkn=>by
  have hk2:=hkn kn rfl
  have e1:=(hx l (by rw [ho];simp [Op.operands])).1
  have e2:=(hx c (by rw [ho];simp [Op.operands])).1
  rw [hl] at e1;rw [hc] at e2
  have e1:=one1 e1
  have e2:=one1 e2
  obtain ⟨x,w',hrun,hs1,hold,a1,a2,a3,hx1,z,hz,hzs,hrow⟩:=run_make (P:=P) ht hk he h0 hn hb hsz w
  refine ⟨x,w',upN ν kn x,Z,.inl ?_,⟨⟨a1,a2,a3,by omega,fun b hb=>hold b (hkl b hb)⟩,fun _ h=>h,fun _ h=>.inl h⟩,Zcd hk2,Zdm h1 hx1,?_,?_,Zbz,fun b hb=>by have:=hkl b (hzk b hb);omega⟩
  ·simp [execOp,ho,e1,e2,Sem.run_bind,hrun,Result.andThen,Sem.run]
  ·rw [Zbt hzk]
   exact Zew (F:=fun y=>y=w.heap.size) hg hzk hkl hk2 (by omega) hold (hB _ _ _ _ _ z hz hzs hrow) (hBm _) (fun y hy=>by subst hy;omega)
  ·show [_]=[_];rw [upN_same]⟩
theorem make_ints {ie:TI} (hz:ie.zero=.int .i64 0) (hs:ie.size=1) {n:Nat}:∀ (Z:Nat→Prop) (w:World) (ν:Nat→Value) (x:Value) (F:Nat→Prop) (z:Value),(∀ Z ν w,R Z w ie.zero ν false z.cells.toList)→z.cells.size=ie.size→row w x ie.size n (fun _ es=>es=z.cells.toList) F→sat Z w ν x F (.ints (List.replicate n 0)):=by
 intro Z w ν x F z h1 h2 h3
 have hzl:z.cells.toList=[.int .i64 0]:=by have:=h1 Z ν w;rw [hz] at this;exact this
 rw [hs,hzl] at h3
 show row w x 1 (List.replicate n 0).length _ F
 rw [List.length_replicate]
 exact Za3 (fun _ _=>rfl) (fun j es hj he=>by rw [he];simp [Zdp,List.getD_eq_getElem?_getD,List.getElem?_replicate,hj]) h3
theorem make_bools {ie:TI} (hz:ie.zero=.bool false) (hs:ie.size=1) {n:Nat}:∀ (Z:Nat→Prop) (w:World) (ν:Nat→Value) (x:Value) (F:Nat→Prop) (z:Value),(∀ Z ν w,R Z w ie.zero ν false z.cells.toList)→z.cells.size=ie.size→row w x ie.size n (fun _ es=>es=z.cells.toList) F→sat Z w ν x F (.bools (List.replicate n false)):=by
 intro Z w ν x F z h1 h2 h3
 have hzl:z.cells.toList=[.bool false]:=by have:=h1 Z ν w;rw [hz] at this;exact this
 rw [hs,hzl] at h3
 show row w x 1 (List.replicate n false).length _ F
 rw [List.length_replicate]
 exact Za3 (fun _ _=>rfl) (fun j es hj he=>by rw [he];simp [Zd0,List.getD_eq_getElem?_getD,List.getElem?_replicate,hj]) h3
theorem make_avs {ie:TI} {n:Nat}:∀ (Z:Nat→Prop) (w:World) (ν:Nat→Value) (x:Value) (F:Nat→Prop) (z:Value),(∀ Z ν w,R Z w ie.zero ν false z.cells.toList)→z.cells.size=ie.size→row w x ie.size n (fun _ es=>es=z.cells.toList) F→sat Z w ν x F (.avs ie.size n (fun _=>ie.zero)):=by
 intro Z w ν x F z h1 h2 h3
 exact Za3 (fun _ _=>rfl) (fun j es hj he=>by rw [he];exact h1 _ _ _) h3
theorem Zmo {Z:Nat→Prop} {w:World} {ν:Nat→Value} {m:Bool}:R Z w (.roI []) ν m [.slice none 0 0]:=⟨none,0,rfl,Nat.le_refl _,Nat.zero_le _,fun h=>absurd h (by simp)⟩
theorem make_rowsR {ie:TI} (hz:ie.zero=.cst (.slice none 0 0)) (hs:ie.size=1) {n:Nat}:∀ (Z:Nat→Prop) (w:World) (ν:Nat→Value) (x:Value) (F:Nat→Prop) (z:Value),(∀ Z ν w,R Z w ie.zero ν false z.cells.toList)→z.cells.size=ie.size→row w x ie.size n (fun _ es=>es=z.cells.toList) F→sat Z w ν x F (.rowsR (List.replicate n [])):=by
 intro Z w ν x F z h1 h2 h3
 have hzl:z.cells.toList=[.slice none 0 0]:=by have:=h1 Z ν w;rw [hz] at this;exact this
 rw [hs,hzl] at h3
 show row w x 1 (List.replicate n []).length _ F
 rw [List.length_replicate]
 refine Za3 (fun _ _=>rfl) (fun j es hj he=>?_) h3
 have:(List.replicate n ([]:List Int)).getD j []=[]:=by simp [List.getD_eq_getElem?_getD,List.getElem?_replicate,hj]
 rw [this,he]
 exact Zmo
theorem make_rows {ie:TI} (hz:ie.zero=.cst (.slice none 0 0)) (hs:ie.size=1) {n:Nat}:∀ (Z:Nat→Prop) (w:World) (ν:Nat→Value) (x:Value) (F:Nat→Prop) (z:Value),(∀ Z ν w,R Z w ie.zero ν false z.cells.toList)→z.cells.size=ie.size→row w x ie.size n (fun _ es=>es=z.cells.toList) F→sat Z w ν x F (.rows (List.replicate n [])):=by
 intro Z w ν x F z h1 h2 h3
 have hzl:z.cells.toList=[.slice none 0 0]:=by have:=h1 Z ν w;rw [hz] at this;exact this
 rw [hs,hzl] at h3
 refine ⟨fun _=>.slice none 0 0,fun _ _=>False,F,?_,fun j hj _=>?_,fun y=>⟨fun h=>.inl h,fun h=>h.elim id (fun ⟨_,_,h⟩=>h.elim)⟩⟩
 ·rw [List.length_replicate];exact h3
 ·have:(List.replicate n ([]:List Int)).getD j []=[]:=by rw [List.length_replicate] at hj;simp [List.getD_eq_getElem?_getD,List.getElem?_replicate,hj]
  rw [this]
  exact ⟨.inl ⟨rfl,rfl,fun _ h=>h⟩,rfl,fun _ h=>h.elim,fun _ _ _ _ _ h=>h.elim⟩
end
open Go
section
variable {P:Program} {K Z:Nat→Prop} {ν:Nat→Value} {w:World} {get:Operand→AV} {ev:Operand→Value} {μ:Nat→Bool} {rs:Rs} {tb:Nat→Option TI}
theorem Zgp {rs:Rs} {k:Nat} {b:Blk}:updL rs [(k,some b),(k,none)]=updL rs [(k,some b)]:=by
 funext j
 simp only [updL,lko]
 cases Nat.beq j k<;>rfl
theorem cellsV {u:AV} {v:Value} (h1:∀ k,(ν k).oneCell'=true) (hc:isC u=true) (h:R Z w u ν true [v]) (hag:isAg u=true→∀ y,y∈v.cells.toList→y.oneCell'=true):∀ y,y∈v.cells.toList→y.oneCell'=true:=by
 intro y hy
 cases hu:isAg u with
 |true=>exact hag hu y hy
 |false =>
  obtain ⟨h2,h3⟩:=Zd8 h1 hc hu h
  rw [h3] at hy
  simp at hy
  rw [hy];exact h2
def isCL : AV→Bool
 |.cons h t=>isC h && !isAg h && isCL t
 |.nil=>true
 |_=>false
def isCC (u:AV):Bool:=match u with | .agg l=>isCL l|u=>isC u
theorem oneL (h1:∀ k,(ν k).oneCell'=true):∀ {l:AV} {cs:List Value},isCL l=true→R Z w l ν true cs→∀ y,y∈cs→y.oneCell'=true:=by
 intro l
 induction l with
 |cons a t _ ih =>
  intro cs hc hr y hy
  simp only [isCL,Bool.and_eq_true,Bool.not_eq_true'] at hc
  obtain ⟨v,vs,rfl,r1,r2⟩:=hr
  rcases List.mem_cons.1 hy with rfl|hy
  ·exact (Zd8 h1 hc.1.1 hc.1.2 r1).1
  ·exact ih hc.2 r2 y hy
 |nil=>intro cs _ hr y hy;rw [show cs=[] from hr] at hy;cases hy
 |_=>intro cs hc;cases hc
theorem Zkc {u:AV} (h:isCC u=true):isC u=true:=by cases u<;>first|rfl|exact h
theorem oneCC {u:AV} {v:Value} (h1:∀ k,(ν k).oneCell'=true) (hc:isCC u=true) (h:R Z w u ν true [v]):∀ y,y∈v.cells.toList→y.oneCell'=true :=
 cellsV h1 (Zkc hc) h fun ha y hy=>by
  cases u<;>first|(cases ha;done)|skip
  obtain ⟨es,e,r⟩:=h
  obtain rfl:=one1 e
  exact oneL h1 hc r y (by simpa [Value.cells] using hy)
theorem run_store {t:Nat} {i:TI} (ht:TOK P t i) {v:Value} (hl:v.cells.size=i.size) (a:Addr) {w':World} (h:(storeCells a v.cells.toList).run P w=.ok () w'):(Instr.storeAt t (.pointer (some a)) v).run P w=.ok () w':=by
 simp [Instr.storeAt,Instr.sureAddr,storeVar,Sem.run_bind,Zc9 ht,hl,Result.andThen,Sem.run,h]
theorem Zjk {o:Oper} {t:Nat} {a x:Operand} (ho:o.op=.store t a x) {w':World} (h:(Instr.storeAt t (ev a) (ev x)).run P w=.ok () w'):(execOp ev o).run P w=.ok .skip w':=by
 simp [execOp,ho,Sem.run_bind,h,Result.andThen,Sem.run]
theorem Zdy {o:Oper} {t k sz ix off n:Nat} {i:TI} {a x:Operand} (ho:o.op=.store t a x) (ht:TOK P t i) (ha:get a=.adr k sz ix off) (hc:isCC (get x)=true) (hp:properL (cellsL (get x))=true) (hlen:lenL (cellsL (get x))=i.size) (hoff:off+i.size≤sz) (hix:ix < n)
  {B B':Blk} (g:(Nat→Prop)→World→(Nat→Value)→Nat→List Value→Prop) (hs:∀ Z w ν y F,sat Z w ν y F B→row w y sz n (g Z w ν) F)
  (hs':∀ (Z:Nat→Prop) (w w':World) ν y F vs,(∀ b,Z b→w'.heap[b]? = w.heap[b]?)→vs.length=i.size→R Z w' (cellsL (get x)) ν true vs→row w' y sz n (fun j es=>∃ es0,g Z w ν j es0∧es0.length=sz∧es=if j=ix then es0.take off++vs++es0.drop (off+vs.length) else es0) F→sat Z w' ν y F B')
  (hm':∀ μ,menB μ B→men μ (get x)=true→menB μ B'):OpSem P o get .any [(k,B)] [(k,some B')] none :=
 ⟨fun K Z ν w ev μ rs h1 hg hzk hkl hx hrd hkn=>by
  obtain ⟨ra,ma⟩:=hx a (by rw [ho];simp [Op.operands])
  obtain ⟨rx,mx⟩:=hx x (by rw [ho];simp [Op.operands])
  rw [ha] at ra
  obtain ⟨b,f,hb,ea⟩:=ra
  have ea:=one1 ea
  have hk:rs k=some B:=hrd (k,B) (by simp)
  obtain ⟨F0,s0,m0,u0,hF0,swap⟩:=Zgv hg hzk hkl hk
  have hr:=Zj5 hp (Zfs h1 (Zkc hc) rx)
  have hvs:(ev x).cells.toList.length=i.size:=by rw [hr,hlen]
  obtain ⟨b',f',hb',hbF,hrun,hw⟩:=row_set (P:=P) (hs _ _ _ _ _ s0) hix (o:=off) (vs:=(ev x).cells.toList) (by omega) (oneCC h1 hc rx)
  rw [hb] at hb'
  simp only [Option.some.injEq,Prod.mk.injEq] at hb'
  obtain ⟨rfl,rfl⟩:=hb'
  obtain ⟨w1,w2,w3,w4,w5,w6⟩:=hw _ rfl
  generalize hwd:w.setRow b _=w' at hrun w1 w2 w3 w4 w5 w6
  have hzw:∀ y,Z y→w'.heap[y]? = w.heap[y]?:=fun y hy=>w1 y (fun e=>(hF0 b hbF).1 (hzk b (e▸hy)))
  refine ⟨undef,w',ν,Z,.inr ⟨Zjk ho ?_,rfl⟩,⟨⟨w3,w4,w5,by omega,fun y hy=>w1 y (fun e=>(hF0 b hbF).1 (e▸hy))⟩,fun _ h=>h,fun _ h=>.inl h⟩,fun _ _=>rfl,h1,?_,⟨_,rfl⟩,rfl,fun y hy=>by rw [w2];exact hkl y (hzk y hy)⟩
  ·rw [ea]
   exact run_store ht (by simpa using hvs) _ hrun
  ·rw [Zbt hzk]
   have:=swap w' ν k B' F0 (by omega) (fun y hy _=>w1 y (fun e=>hy (e▸hbF))) (fun _ _=>rfl) (.inl rfl) (hs' Z w w' ν (ν k) F0 (ev x).cells.toList hzw hvs (Zbc (fun _ h=>h) hzw (Zfs h1 (Zkc hc) rx)) w6)
    (Zdo Zci (hm' μ m0 mx)) (fun y hy=>⟨.inl hy,by rw [w2];exact (hF0 y hy).2⟩)
   rw [Zh9 u0,Zgp] at this
   exact this⟩
theorem Zb5 {α:Type} {xs:List α} {i j:Nat} {v d:α} (hi:i < xs.length):(xs.set i v).getD j d=if j=i then v else xs.getD j d:=by
 simp only [List.getD_eq_getElem?_getD,List.getElem?_set]
 by_cases h:i=j
 ·subst h;simp [hi]
 ·simp [h,Ne.symm h]
theorem opsem_store_ints {o:Oper} {t k ix:Nat} {i:TI} {a x:Operand} {n:Int} {xs:List Int} (ho:o.op=.store t a x) (ht:TOK P t i) (hsz:i.size=1) (ha:get a=.adr k 1 ix 0) (hx:get x=.int .i64 n) (hix:ix < xs.length) :
  OpSem P o get .any [(k,.ints xs)] [(k,some (.ints (xs.set ix n)))] none:=by
 refine Zdy (sz:=1) ho ht ha (by rw [hx];rfl) (by rw [hx];rfl) (by rw [hx,hsz];rfl) (by omega) hix (fun _ _ _=>Zdp xs) (fun Z w ν y F h=>h) ?_ (fun _ _ _=>trivial)
 intro Z w w' ν y F vs hz hl hr hrow
 rw [hx] at hr
 obtain ⟨v,vs',rfl,r1,r2⟩:=hr
 have hv:=one1 r1
 have:vs'=[]:=r2
 subst this hv
 show row w' y 1 (xs.set ix n).length _ F
 rw [List.length_set]
 refine Za3 (fun _ _=>rfl) (fun j es hj=>?_) hrow
 rintro ⟨es0,e1,e2,e3⟩
 rw [Zdp] at e1 ⊢
 rw [Zb5 hix]
 by_cases h:j=ix
 ·rw [if_pos h] at e3 ⊢;rw [e3,e1];rfl
 ·rw [if_neg h] at e3 ⊢;rw [e3,e1]
theorem opsem_store_bools {o:Oper} {t k ix:Nat} {i:TI} {a x:Operand} {n:Bool} {xs:List Bool} (ho:o.op=.store t a x) (ht:TOK P t i) (hsz:i.size=1) (ha:get a=.adr k 1 ix 0) (hx:get x=.bool n) (hix:ix < xs.length) :
  OpSem P o get .any [(k,.bools xs)] [(k,some (.bools (xs.set ix n)))] none:=by
 refine Zdy (sz:=1) ho ht ha (by rw [hx];rfl) (by rw [hx];rfl) (by rw [hx,hsz];rfl) (by omega) hix (fun _ _ _=>Zd0 xs) (fun Z w ν y F h=>h) ?_ (fun _ _ _=>trivial)
 intro Z w w' ν y F vs hz hl hr hrow
 rw [hx] at hr
 obtain ⟨v,vs',rfl,r1,r2⟩:=hr
 have hv:=one1 r1
 have:vs'=[]:=r2
 subst this hv
 show row w' y 1 (xs.set ix n).length _ F
 rw [List.length_set]
 refine Za3 (fun _ _=>rfl) (fun j es hj=>?_) hrow
 rintro ⟨es0,e1,e2,e3⟩
 rw [Zd0] at e1 ⊢
 rw [Zb5 hix]
 by_cases h:j=ix
 ·rw [if_pos h] at e3 ⊢;rw [e3,e1];rfl
 ·rw [if_neg h] at e3 ⊢;rw [e3,e1]
theorem opsem_store_rowsR {o:Oper} {t k ix:Nat} {i:TI} {a x:Operand} {ys:List Int} {xs:List (List Int)} (ho:o.op=.store t a x) (ht:TOK P t i) (hsz:i.size=1) (ha:get a=.adr k 1 ix 0) (hx:get x=.roI ys) (hix:ix < xs.length) :
  OpSem P o get .any [(k,.rowsR xs)] [(k,some (.rowsR (xs.set ix ys)))] none:=by
 refine Zdy (sz:=1) ho ht ha (by rw [hx];rfl) (by rw [hx];rfl) (by rw [hx,hsz];rfl) (by omega) hix (fun Z w ν j es=>R Z w (.roI (xs.getD j [])) ν false es) (fun Z w ν y F h=>h) ?_ (fun _ _ _=>trivial)
 intro Z w w' ν y F vs hz hl hr hrow
 rw [hx] at hr
 obtain ⟨v,vs',rfl,r1,r2⟩:=hr
 have:vs'=[]:=r2
 subst this
 show row w' y 1 (xs.set ix ys).length _ F
 rw [List.length_set]
 refine Za3 (fun _ _=>rfl) (fun j es hj=>?_) hrow
 rintro ⟨es0,e1,e2,e3⟩
 rw [Zb5 hix]
 by_cases h:j=ix
 ·rw [if_pos h] at e3 ⊢
  obtain ⟨z,rfl⟩:=List.length_eq_one_iff.1 e2
  rw [e3];exact r1
 ·rw [if_neg h] at e3 ⊢;rw [e3];exact Zbc (fun _ h=>h) hz e1
def updv (u:AV) (o:Nat) (x:AV):AV:=match u with
 |.agg l=>.agg (appL (takeL l o) (appL (cellsL x) (dropL l (o+lenL (cellsL x)))))
 |_=>x
theorem updv_R {u x:AV} {o:Nat} {cs vs:List Value} (hp:properL (cellsL x)=true) (hu:isV u=true) (hpu:properL (cellsL u)=true) (hle:o+lenL (cellsL x)≤lenL (cellsL u)) (hne:0 < lenL (cellsL x)) (hax:isAg u=false→isAg x=false) (hvx:isV x=true)
  (hr:R Z w u ν false cs) (hx:R Z w (cellsL x) ν true vs):R Z w (updv u o x) ν false (cs.take o++vs++cs.drop (o+vs.length)):=by
 have hlen:=Zj5 hp hx
 cases u with
 |agg l =>
  rw [hlen,List.append_assoc]
  have hpl:properL l=true:=hpu
  exact Znn (Zgd (by simp only [cellsL] at hle;omega)) (Zne hr (by simp only [cellsL] at hle;omega)) (Znn hp hx (Zng hr hle))
 |_ =>
  have hle:o+lenL (cellsL x)≤1:=hle
  have ho:o=0:=by omega
  have hl1:lenL (cellsL x)=1:=by omega
  subst ho
  have hcs:cs.length=1:=by
   first
    |exact Zj5 (l:=AV.cons _ AV.nil) rfl (Zj6 hu hr)
  have hvl:vs.length=1:=by omega
  rw [List.take_zero,List.nil_append,List.drop_eq_nil_of_le (by omega),List.append_nil]
  show R Z w x ν false vs
  have ha:=hax rfl
  rw [Znf ha]
  obtain ⟨v,rfl⟩:=List.length_eq_one_iff.1 hvl
  cases x<;>first|(cases ha;done)|(obtain ⟨v',vs',e,r1,r2⟩:=hx;simp only [List.cons.injEq] at e;obtain ⟨rfl,rfl⟩:=e;exact r1)
theorem men_updv {u x:AV} {o:Nat} (hu:men μ u=true) (hx:men μ x=true):men μ (updv u o x)=true:=by
 cases u with
 |agg l=>exact Zk3 (Zi3 hu) (Zk3 (Zdz hx) (Zi5 hu))
 |_=>exact hx
theorem opsem_store_box {o:Oper} {t k off:Nat} {i:TI} {a x:Operand} {u:AV} (ho:o.op=.store t a x) (ht:TOK P t i) (ha:(get a=.own k∧off=0)∨get a=.adr k 0 0 off) (hc:isCC (get x)=true) (hp:properL (cellsL (get x))=true) (hlen:lenL (cellsL (get x))=i.size) (hpos:0 < i.size)
  (hu:isV u=true) (hpu:properL (cellsL u)=true) (hle:off+i.size≤lenL (cellsL u)) (hax:isAg u=false→isAg (get x)=false):OpSem P o get .any [(k,.box u)] [(k,some (.box (updv u off (get x))))] none :=
 ⟨fun K Z ν w ev μ rs h1 hg hzk hkl hx hrd hkn=>by
  obtain ⟨ra,ma⟩:=hx a (by rw [ho];simp [Op.operands])
  obtain ⟨rx,mx⟩:=hx x (by rw [ho];simp [Op.operands])
  have hk:rs k=some (.box u):=hrd (k,.box u) (by simp)
  obtain ⟨F0,s0,m0,u0,hF0,swap⟩:=Zgv hg hzk hkl hk
  obtain ⟨b,cells,T,hxv,hb,r,hF⟩:=s0
  have hbF:F0 b:=(hF b).2 rfl
  have rxc:=Zfs h1 (Zkc hc) rx
  have hr:=Zj5 hp rxc
  have hvs:(ev x).cells.toList.length=i.size:=by rw [hr,hlen]
  have hclen:cells.size=lenL (cellsL u):=by simpa using Zj5 hpu (Zj6 hu r)
  have ea:ev a=.pointer (some ⟨b,off,none⟩):=by
   rcases ha with ⟨ha,rfl⟩|ha
   ·rw [ha] at ra;rw [one1 ra,hxv]
   ·rw [ha] at ra
    obtain ⟨b',f',hb',e⟩:=ra
    rw [hxv] at hb'
    simp only [Zgk,Option.some.injEq,Prod.mk.injEq] at hb'
    obtain ⟨rfl,rfl⟩:=hb'
    rw [one1 e];simp
  have hst:=run_storeCells_at (P:=P) b off T (ev x).cells.toList 0 cells w hb (by omega) (oneCC h1 hc rx)
  simp only [Nat.add_zero] at hst
  have hnew:=setRow_heap w b cells (cells.toList.take off++(ev x).cells.toList++cells.toList.drop (off+(ev x).cells.toList.length)).toArray T (0,0) hb
  generalize hwd:w.setRow b _=w' at hst hnew
  have w1:∀ y,y≠b→w'.heap[y]? = w.heap[y]?:=fun y hy=>by rw [←hwd];exact setRow_other w b y _ hy
  have w2:w'.heap.size=w.heap.size:=by rw [←hwd];simp
  have hzw:∀ y,Z y→w'.heap[y]? = w.heap[y]?:=fun y hy=>w1 y (fun e=>(hF0 b hbF).1 (hzk b (e▸hy)))
  refine ⟨undef,w',ν,Z,.inr ⟨Zjk ho ?_,rfl⟩,⟨⟨by rw [←hwd];rfl,by rw [←hwd];rfl,by rw [←hwd];rfl,by omega,fun y hy=>w1 y (fun e=>(hF0 b hbF).1 (e▸hy))⟩,fun _ h=>h,fun _ h=>.inl h⟩,fun _ _=>rfl,h1,?_,⟨_,rfl⟩,rfl,fun y hy=>by rw [w2];exact hkl y (hzk y hy)⟩
  ·rw [ea]
   exact run_store ht (by simpa using hvs) _ hst
  ·rw [Zbt hzk]
   have:=swap w' ν k (.box (updv u off (get x))) F0 (by omega) (fun y hy _=>w1 y (fun e=>hy (e▸hbF))) (fun _ _=>rfl) (.inl rfl)
    ⟨b,_,T,hxv,hnew,by
     have:=updv_R (o:=off) (x:=get x) hp hu hpu (by omega) (by omega) hax (Zoz (Zkc hc)) (Zbc (fun _ h=>h) hzw r) (Zbc (fun _ h=>h) hzw rxc)
     simpa using this,hF⟩
    (Zdt Zci (men_updv m0 mx)) (fun y hy=>⟨.inl hy,by rw [w2];exact (hF0 y hy).2⟩)
   rw [Zh9 u0,Zgp] at this
   exact this⟩
theorem opsem_store_avs {o:Oper} {t k sz ix off n:Nat} {i:TI} {a x:Operand} {f:Nat→AV} (ho:o.op=.store t a x) (ht:TOK P t i) (ha:get a=.adr k sz ix off) (hc:isCC (get x)=true) (hp:properL (cellsL (get x))=true) (hlen:lenL (cellsL (get x))=i.size) (hpos:0 < i.size) (hix:ix < n)
  (hu:isV (f ix)=true) (hpu:properL (cellsL (f ix))=true) (hsz:lenL (cellsL (f ix))=sz) (hle:off+i.size≤sz) (hax:isAg (f ix)=false→isAg (get x)=false) :
  OpSem P o get .any [(k,.avs sz n f)] [(k,some (.avs sz n (fun j=>if j=ix then updv (f ix) off (get x) else f j)))] none:=by
 refine Zdy (sz:=sz) ho ht ha hc hp hlen hle hix (fun Z w ν j es=>R Z w (f j) ν false es) (fun Z w ν y F h=>h) ?_ (fun μ hB hm j hj=>?_)
 ·intro Z w w' ν y F vs hz hl hr hrow
  refine Za3 (fun _ _=>rfl) (fun j es hj=>?_) hrow
  rintro ⟨es0,e1,e2,e3⟩
  by_cases h:j=ix
  ·subst h
   dsimp only
   rw [if_pos rfl] at e3 ⊢
   rw [e3]
   exact updv_R hp hu hpu (by omega) (by omega) hax (Zoz (Zkc hc)) (Zbc (fun _ h=>h) hz e1) hr
  ·dsimp only;rw [if_neg h] at e3 ⊢;rw [e3];exact Zbc (fun _ h=>h) hz e1
 ·dsimp only
  split
  ·exact men_updv (hB ix hix) hm
  ·exact hB j hj
end
open Go
section
variable {P:Program} {K Z:Nat→Prop} {ν:Nat→Value} {w:World} {get:Operand→AV} {ev:Operand→Value} {μ:Nat→Bool} {rs:Rs} {tb:Nat→Option TI}
structure Src (w:World) (v:Value) (sz m:Nat) (g:Nat→List Value→Prop) (A:Option Addr) (c:Nat) (news:List Value):Prop where
 val:v=.slice A m c
 len:news.length=m * sz
 rd:∀ ad,A=some ad→∀ j u,news[j]? = some u→w.cell? (ad.add j)=some u
 nil:A=none→news=[]
 el:∀ j,j < m→g j ((news.drop (j * sz)).take sz)
 one:∀ u,u∈news→u.oneCell'=true
theorem Zjh {v:Value} {sz m:Nat} {g:Nat→List Value→Prop} (hone:∀ j es,j < m→g j es→∀ u,u∈es→u.oneCell'=true) {A:Option Addr} {c:Nat} (hv:v=.slice A m c) (h0:m=0→A=none∨sz=sz)
  (h:0 < m→∃ b o,A=some ⟨b,o,none⟩∧∀ j,j < m→∃ es,g j es∧es.length=sz∧∀ (i:Nat) x,es[i]? = some x→w.cell? ⟨b,o+(j * sz+i),none⟩=some x):∃ news,Src w v sz m g A c news:=by
 by_cases hm:m=0
 ·subst hm
  exact ⟨[],hv,by simp,fun _ _ j u h=>by simp at h,fun _=>rfl,fun j hj=>by omega,fun u hu=>by simp at hu⟩
 ·obtain ⟨b,o,rfl,hc⟩:=h (by omega)
  have hel:∀ j,j < m→∃ es,g j es∧es.length=sz∧(((List.range (m * sz)).map fun q=>(w.cell? ⟨b,o+q,none⟩).getD undef).drop (j * sz)).take sz=es∧∀ (i:Nat) x,es[i]? = some x→w.cell? ⟨b,o+(j * sz+i),none⟩=some x:=by
   intro j hj
   obtain ⟨es,e1,e2,e3⟩:=hc j hj
   have hle:j * sz+sz≤m * sz:=by rw [←Nat.succ_mul];exact Nat.mul_le_mul_right _ hj
   refine ⟨es,e1,e2,List.ext_getElem? fun q=>?_,e3⟩
   rw [List.getElem?_take,List.getElem?_drop]
   by_cases hq:q < sz
   ·rw [if_pos hq,List.getElem?_map,List.getElem?_range (by omega)]
    obtain ⟨x,hx⟩:∃ x,es[q]? = some x:=⟨es[q],List.getElem?_eq_getElem (by omega)⟩
    rw [hx,Option.map_some,e3 q x hx];rfl
   ·rw [if_neg hq,List.getElem?_eq_none (by omega)]
  refine ⟨(List.range (m * sz)).map fun q=>(w.cell? ⟨b,o+q,none⟩).getD undef,hv,by simp,?_,by simp,fun j hj=>?_,fun u hu=>?_⟩
  ·intro ad had q u hq
   simp only [Option.some.injEq] at had
   subst had
   rw [List.getElem?_map] at hq
   have hqs:q < m * sz:=by
    rcases Nat.lt_or_ge q (m * sz) with h|h
    ·exact h
    ·rw [List.getElem?_eq_none (by simpa using h)] at hq;cases hq
   rw [List.getElem?_range hqs,Option.map_some,Option.some.injEq] at hq
   subst hq
   have hsz:0 < sz:=by
    rcases Nat.eq_zero_or_pos sz with h|h
    ·rw [h] at hqs;omega
    ·exact h
   obtain ⟨es,e1,e2,e3,e4⟩:=hel (q / sz) ((Nat.div_lt_iff_lt_mul hsz).2 hqs)
   have hmod:=Nat.mod_lt q hsz
   obtain ⟨x,hx⟩:∃ x,es[q % sz]? = some x:=⟨es[q % sz],List.getElem?_eq_getElem (by omega)⟩
   have:=e4 _ _ hx
   have hdm:q / sz * sz+q % sz=q:=by rw [Nat.mul_comm];exact Nat.div_add_mod q sz
   rw [hdm] at this
   rw [Addr.add_lit,this];rfl
  ·obtain ⟨es,e1,e2,e3,e4⟩:=hel j hj
   rw [e3];exact e1
  ·obtain ⟨q,hq,rfl⟩:=List.mem_map.1 hu
   have hqs:=List.mem_range.1 hq
   have hsz:0 < sz:=by
    rcases Nat.eq_zero_or_pos sz with h|h
    ·rw [h] at hqs;omega
    ·exact h
   have hlt:=(Nat.div_lt_iff_lt_mul hsz).2 hqs
   obtain ⟨es,e1,e2,e3,e4⟩:=hel (q / sz) hlt
   have hmod:=Nat.mod_lt q hsz
   obtain ⟨x,hx⟩:∃ x,es[q % sz]? = some x:=⟨es[q % sz],List.getElem?_eq_getElem (by omega)⟩
   have:=e4 _ _ hx
   have hdm:q / sz * sz+q % sz=q:=by rw [Nat.mul_comm];exact Nat.div_add_mod q sz
   rw [hdm] at this
   rw [this]
   exact hone _ es hlt e1 x (List.mem_of_getElem? hx)
theorem Zm6 {v:Value} {sz m:Nat} {g:Nat→List Value→Prop} (hone:∀ j es,j < m→g j es→∀ u,u∈es→u.oneCell'=true) (h:Zfp Z w sz m g [v]):∃ A c news,Src w v sz m g A c news:=by
 obtain ⟨A,cap,e,h1,h2,h3⟩:=h
 obtain ⟨news,hs⟩:=Zjh (w:=w) hone (one1 e) (fun _=>.inr rfl) (fun hm=>by
  obtain ⟨b,o,hA,_,hc⟩:=h3 hm
  exact ⟨b,o,hA,hc⟩)
 exact ⟨A,cap,news,hs⟩
theorem Zmc {v:Value} {sz m:Nat} {g:Nat→List Value→Prop} {F:Nat→Prop} (hone:∀ j es,j < m→g j es→∀ u,u∈es→u.oneCell'=true) (h:row w v sz m g F):∃ A c news,Src w v sz m g A c news:=by
 rcases h with ⟨h0,h1,_⟩|⟨b,o,cap,cells,T,hx,_,_,hh,_,_,hc⟩
 ·subst h1
  obtain ⟨news,hs⟩:=Zjh (w:=w) (v:=v) (sz:=sz) (m:=0) (g:=g) hone h0 (fun _=>.inr rfl) (fun hm=>by omega)
  exact ⟨_,_,news,hs⟩
 ·obtain ⟨news,hs⟩:=Zjh (w:=w) hone hx (fun _=>.inr rfl) (fun hm=>⟨b,o,rfl,fun j hj=>by
   obtain ⟨es,e1,e2,e3⟩:=hc j hj
   exact ⟨es,e1,e2,fun i c hi=>Zey hh (e3 i c hi)⟩⟩)
  exact ⟨_,_,news,hs⟩
theorem int_one {xs:List Int} {m:Nat}:∀ j es,j < m→Zdp xs j es→∀ u,u∈es→u.oneCell'=true:=by
 intro j es _ h u hu;rw [h] at hu;simp at hu;subst hu;rfl
theorem bool_one {xs:List Bool} {m:Nat}:∀ j es,j < m→Zd0 xs j es→∀ u,u∈es→u.oneCell'=true:=by
 intro j es _ h u hu;rw [h] at hu;simp at hu;subst hu;rfl
theorem ro_one {xs:List (List Int)} {m:Nat}:∀ j es,j < m→R Z w (.roI (xs.getD j [])) ν false es→∀ u,u∈es→u.oneCell'=true:=by
 intro j es _ h u hu
 obtain ⟨A,cap,e,_⟩:=h
 rw [e] at hu;simp at hu;subst hu;rfl
def dstX (u:AV):Option Nat→Prop
 |some k=>u=.own k
 |none=>u=.cst (.slice none 0 0)
def dstG (sz n:Nat) (g:(Nat→Prop)→World→(Nat→Value)→Nat→List Value→Prop) (B0:Blk):Option Nat→Prop
 |some _=>∀ Z w ν v F,sat Z w ν v F B0→row w v sz n (g Z w ν) F
 |none=>n=0
def dstW (kn:Nat) (B:Blk):Option Nat→List (Nat × Option Blk)
 |some k=>[(kn,some B),(k,none)]
 |none=>[(kn,some B)]
theorem Ze2 {o:Oper} {t e:Nat} {i ie:TI} {x y:Operand} (ho:o.op=.call ⟨.builtin .append,#[x,y],#[t,t]⟩) (ht:TOK P t i) (hk:i.k=.slc e) (he:TOK P e ie) (hsz:0 < ie.size) {n m:Nat} (hlim:n+m≤lim) (hb:(n+m) * ie.bytes≤lim) (kn:Nat)
  {k0:Option Nat} {B0 B:Blk} (hx0:dstX (get x) k0) {rd:List (Nat × Blk)} (hrd0:∀ k,k0=some k→(k,B0)∈rd)
  (g:(Nat→Prop)→World→(Nat→Value)→Nat→List Value→Prop) (hg0:dstG ie.size n g B0 k0) (hgm:∀ (Z:Nat→Prop) (w w':World) ν j es,(∀ b,Z b→w'.heap[b]? = w.heap[b]?)→j < n→g Z w ν j es→g Z w' ν j es)
  (g':(Nat→Prop)→World→(Nat→Value)→Nat→List Value→Prop) (hsrc:∀ (K Z:Nat→Prop) (ν:Nat→Value) (w:World) (μ:Nat→Bool) (rs:Rs) (v:Value),(∀ k,(ν k).oneCell'=true)→GoodRs K Z w ν μ rs→(∀ p,p∈rd→rs p.1=some p.2)→R Z w (get y) ν true [v]→∃ A c news,Src w v ie.size m (g' Z w ν) A c news)
  (hgm':∀ (Z:Nat→Prop) (w w':World) ν j es,(∀ b,Z b→w'.heap[b]? = w.heap[b]?)→j < m→g' Z w ν j es→g' Z w' ν j es)
  (hB:∀ Z w ν ν' v F,row w v ie.size (n+m) (fun j es=>if j < n then g Z w ν j es else g' Z w ν (j - n) es) F→sat Z w ν' v F B) (hmB:∀ μ,menB μ B) :
  OpSem P o get (.own kn) rd (dstW kn B k0) (some kn) :=
 ⟨fun K Z ν w ev μ rs h1 hg hzk hkl hx hrd hkn=>by
  have hk2:=hkn kn rfl
  obtain ⟨rx,mx⟩:=hx x (by rw [ho];simp [Op.operands,Call.operands])
  obtain ⟨ry,my⟩:=hx y (by rw [ho];simp [Op.operands,Call.operands])
  obtain ⟨A,c,news,hs⟩:=hsrc K Z ν w μ rs (ev y) h1 hg hrd ry
  have hexec:∀ (v:Value) (w':World),(Builtin.append_ #[t,t] o.type #[ev x,ev y]).run P w=.ok v w'→(execOp ev o).run P w=.ok (.value v) w':=fun v w' h=>by
   simp [execOp,ho,resolve,invoke,builtin,Sem.run_bind,h,Result.andThen,Sem.run]
  have hnew:∀ (g0:Nat→List Value→Prop) (w':World) (v:Value) (F:Nat→Prop),(∀ b,Z b→w'.heap[b]? = w.heap[b]?)→(∀ j es,j < n→g0 j es→g Z w ν j es) →
    row w' v ie.size (n+m) (fun j es=>if j < n then g0 j es else es=(news.drop ((j - n) * ie.size)).take ie.size) F→row w' v ie.size (n+m) (fun j es=>if j < n then g Z w' ν j es else g' Z w' ν (j - n) es) F:=by
   intro g0 w' v F hz h0 h
   refine Za3 (fun _ _=>rfl) (fun j es hj hje=>?_) h
   by_cases hjn:j < n
   ·rw [if_pos hjn] at hje ⊢;exact hgm Z w w' ν j es hz hjn (h0 j es hjn hje)
   ·rw [if_neg hjn] at hje ⊢;rw [hje];exact hgm' Z w w' ν _ _ hz (by omega) (hs.el (j - n) (by omega))
  cases k0 with
  |some k =>
   have hrk:rs k=some B0:=hrd _ (hrd0 k rfl)
   obtain ⟨F0,s0,m0,u0,hF0,swap⟩:=Zgv hg hzk hkl hrk
   have hx0:get x=.own k:=hx0
   rw [hx0] at rx
   have ex:=one1 rx
   have hrow:row w (ev x) ie.size n (g Z w ν) F0:=by rw [ex];exact hg0 Z w ν _ _ s0
   obtain ⟨x',w',F',a1,a2,a3,a4,a5,a6,a7,a8,a9⟩:=row_append (P:=P) (ty:=o.type) ht hk he hrow hsz hs.len hs.rd hs.nil hs.one hlim hb (fun y hy=>(hF0 y hy).2)
   have hKw:∀ b,K b→w'.heap[b]? = w.heap[b]?:=fun b hb=>a3 b (fun hf=>(hF0 b hf).1 hb) (hkl b hb)
   rw [hs.val] at hexec
   refine ⟨x',w',upN ν kn x',Z,.inl (hexec _ _ a1),⟨⟨a5,a6,a7,a4,hKw⟩,fun _ h=>h,fun _ h=>.inl h⟩,Zcd hk2,Zdm h1 a9,?_,?_,Zbz,fun b hb=>by have:=hkl b (hzk b hb);omega⟩
   ·rw [Zbt hzk]
    exact swap w' (upN ν kn x') kn B F' a4 a3 (Zcd hk2) (.inr hk2) (by rw [upN_same];exact hB Z w' ν _ _ _ (hnew _ w' x' F' (fun b hb=>hKw b (hzk b hb)) (fun _ _ _ h=>h) a2)) (hmB _) a8
   ·show [_]=[_];rw [upN_same]
  |none =>
   have hx0:get x=.cst (.slice none 0 0):=hx0
   have hn0:n=0:=hg0
   subst hn0
   rw [hx0] at rx
   have ex:=one1 rx
   have hrow:row w (ev x) ie.size 0 (fun _ _=>False) (fun _=>False):=.inl ⟨ex,rfl,fun _ h=>h⟩
   obtain ⟨x',w',F',a1,a2,a3,a4,a5,a6,a7,a8,a9⟩:=row_append (P:=P) (ty:=o.type) ht hk he hrow hsz hs.len hs.rd hs.nil hs.one hlim hb (fun y hy=>hy.elim)
   have hold:∀ b,b < w.heap.size→w'.heap[b]? = w.heap[b]?:=fun b hb=>a3 b (fun h=>h) hb
   rw [hs.val] at hexec
   have hrow':=hnew _ w' x' F' (fun b hb=>hold b (hkl b (hzk b hb))) (fun _ _ h _=>by omega) a2
   refine ⟨x',w',upN ν kn x',Z,.inl (hexec _ _ a1),⟨⟨a5,a6,a7,a4,fun b hb=>hold b (hkl b hb)⟩,fun _ h=>h,fun _ h=>.inl h⟩,Zcd hk2,Zdm h1 a9,?_,?_,Zbz,fun b hb=>by have:=hkl b (hzk b hb);omega⟩
   ·rw [Zbt hzk]
    exact Zew hg hzk hkl hk2 a4 hold (hB Z w' ν _ _ _ hrow') (hmB _) (fun y hy=>by
     have:=a8 y hy
     exact ⟨this.1.elim (fun h=>h.elim) id,this.2⟩)
   ·show [_]=[_];rw [upN_same]⟩
/-! ### What may be appended -/
def Zg2 (rd:List (Nat × Blk)) (u:AV) (sz m:Nat) (g':(Nat→Prop)→World→(Nat→Value)→Nat→List Value→Prop):Prop :=
 ∀ (K Z:Nat→Prop) (ν:Nat→Value) (w:World) (μ:Nat→Bool) (rs:Rs) (v:Value),(∀ k,(ν k).oneCell'=true)→GoodRs K Z w ν μ rs→(∀ p,p∈rd→rs p.1=some p.2)→R Z w u ν true [v]→∃ A c news,Src w v sz m (g' Z w ν) A c news
theorem src_roI {rd:List (Nat × Blk)} {ys:List Int}:Zg2 rd (.roI ys) 1 ys.length (fun _ _ _=>Zdp ys):=fun K Z ν w μ rs v _ _ _ h=>Zm6 int_one h
theorem src_roB {rd:List (Nat × Blk)} {ys:List Bool}:Zg2 rd (.roB ys) 1 ys.length (fun _ _ _=>Zd0 ys):=fun K Z ν w μ rs v _ _ _ h=>Zm6 bool_one h
theorem src_roII {rd:List (Nat × Blk)} {ys:List (List Int)}:Zg2 rd (.roII ys) 1 ys.length (fun Z w ν j es=>R Z w (.roI (ys.getD j [])) ν false es):=fun K Z ν w μ rs v _ _ _ h=>Zm6 ro_one h
theorem src_own {rd:List (Nat × Blk)} {k:Nat} {ys:List Int} (hr:(k,Blk.ints ys)∈rd):Zg2 rd (.own k) 1 ys.length (fun _ _ _=>Zdp ys):=fun K Z ν w μ rs v _ hg hrd h=>by
 obtain ⟨Ft,hF⟩:=hg
 obtain ⟨_,_,hs,_⟩:=hF k _ (hrd _ hr)
 rw [one1 h]
 exact Zmc int_one hs
theorem src_ownB {rd:List (Nat × Blk)} {k:Nat} {ys:List Bool} (hr:(k,Blk.bools ys)∈rd):Zg2 rd (.own k) 1 ys.length (fun _ _ _=>Zd0 ys):=fun K Z ν w μ rs v _ hg hrd h=>by
 obtain ⟨Ft,hF⟩:=hg
 obtain ⟨_,_,hs,_⟩:=hF k _ (hrd _ hr)
 rw [one1 h]
 exact Zmc bool_one hs
theorem src_ownR {rd:List (Nat × Blk)} {k:Nat} {ys:List (List Int)} (hr:(k,Blk.rowsR ys)∈rd):Zg2 rd (.own k) 1 ys.length (fun Z w ν j es=>R Z w (.roI (ys.getD j [])) ν false es):=fun K Z ν w μ rs v _ hg hrd h=>by
 obtain ⟨Ft,hF⟩:=hg
 obtain ⟨_,_,hs,_⟩:=hF k _ (hrd _ hr)
 rw [one1 h]
 exact Zmc ro_one hs
theorem src_one {rd:List (Nat × Blk)} {sz:Nat} {g:Nat→AV} (ha:isAg (g 0)=true) (hc:isCC (g 0)=true):Zg2 rd (.ro sz 1 g) sz 1 (fun Z w _ _ es=>R Z w (g 0) nu0 false es):=fun K Z ν w μ rs v _ _ _ h=>by
 refine Zm6 (fun j es _ hr u hu=>?_) (Zbk (fun _ h=>h) (fun _ _=>rfl) (fun j es hj hh=>?_) h)
 ·cases hg:g 0 with
  |agg l =>
   rw [hg] at hr hc
   exact oneL (ν:=nu0) (fun _=>rfl) hc hr u hu
  |_=>rw [hg] at ha;cases ha
 ·obtain rfl:j=0:=by omega
  exact hh.2
theorem Zk8 {α:Type} {xs ys:List α} {d:α} {j n:Nat} (hn:n=xs.length):(xs++ys).getD j d=if j < n then xs.getD j d else ys.getD (j - n) d:=by
 subst hn
 simp only [List.getD_eq_getElem?_getD]
 split
 ·rw [List.getElem?_append_left (by omega)]
 ·rw [List.getElem?_append_right (by omega)]
section
variable {o:Oper} {t e:Nat} {i ie:TI} {x y:Operand}
theorem opsem_append_ints (ho:o.op=.call ⟨.builtin .append,#[x,y],#[t,t]⟩) (ht:TOK P t i) (hk:i.k=.slc e) (he:TOK P e ie) (hsz:ie.size=1) {xs ys:List Int} (hlim:xs.length+ys.length≤1000000000000) (hby:ie.bytes≤100) (kn:Nat) {k0:Option Nat} (hx0:dstX (get x) k0) {rd:List (Nat × Blk)}
  (hrd0:∀ k,k0=some k→(k,.ints xs)∈rd) (h0:k0=none→xs=[]) (hs:Zg2 rd (get y) 1 ys.length (fun _ _ _=>Zdp ys)):OpSem P o get (.own kn) rd (dstW kn (.ints (xs++ys)) k0) (some kn):=by
 have hmul:(xs.length+ys.length) * ie.bytes≤1000000000000 * 100:=Nat.mul_le_mul hlim hby
 refine Ze2 (n:=xs.length) (m:=ys.length) (B0:=.ints xs) ho ht hk he (by omega) (by simp only [lim];omega) (by simp only [lim];omega) kn hx0 hrd0 (fun _ _ _=>Zdp xs) ?_ (fun _ _ _ _ _ _ _ _ h=>h) (fun _ _ _=>Zdp ys) (by rw [hsz];exact hs) (fun _ _ _ _ _ _ _ _ h=>h) ?_ (fun _=>trivial)
 ·cases k0 with
  |none=>exact by rw [h0 rfl];rfl
  |some k=>rw [hsz];exact fun _ _ _ _ _ h=>h
 ·intro Z w ν ν' v F h
  show row w v 1 (xs++ys).length _ F
  rw [List.length_append,←hsz]
  refine Za3 (fun _ _=>rfl) (fun j es hj hje=>?_) h
  rw [Zdp,Zk8 rfl]
  split
  ·rw [if_pos ‹_›] at hje;exact hje
  ·rw [if_neg ‹_›] at hje;exact hje
theorem opsem_append_bools (ho:o.op=.call ⟨.builtin .append,#[x,y],#[t,t]⟩) (ht:TOK P t i) (hk:i.k=.slc e) (he:TOK P e ie) (hsz:ie.size=1) {xs ys:List Bool} (hlim:xs.length+ys.length≤1000000000000) (hby:ie.bytes≤100) (kn:Nat) {k0:Option Nat} (hx0:dstX (get x) k0) {rd:List (Nat × Blk)}
  (hrd0:∀ k,k0=some k→(k,.bools xs)∈rd) (h0:k0=none→xs=[]) (hs:Zg2 rd (get y) 1 ys.length (fun _ _ _=>Zd0 ys)):OpSem P o get (.own kn) rd (dstW kn (.bools (xs++ys)) k0) (some kn):=by
 have hmul:(xs.length+ys.length) * ie.bytes≤1000000000000 * 100:=Nat.mul_le_mul hlim hby
 refine Ze2 (n:=xs.length) (m:=ys.length) (B0:=.bools xs) ho ht hk he (by omega) (by simp only [lim];omega) (by simp only [lim];omega) kn hx0 hrd0 (fun _ _ _=>Zd0 xs) ?_ (fun _ _ _ _ _ _ _ _ h=>h) (fun _ _ _=>Zd0 ys) (by rw [hsz];exact hs) (fun _ _ _ _ _ _ _ _ h=>h) ?_ (fun _=>trivial)
 ·cases k0 with
  |none=>exact by rw [h0 rfl];rfl
  |some k=>rw [hsz];exact fun _ _ _ _ _ h=>h
 ·intro Z w ν ν' v F h
  show row w v 1 (xs++ys).length _ F
  rw [List.length_append,←hsz]
  refine Za3 (fun _ _=>rfl) (fun j es hj hje=>?_) h
  rw [Zd0,Zk8 rfl]
  split
  ·rw [if_pos ‹_›] at hje;exact hje
  ·rw [if_neg ‹_›] at hje;exact hje
theorem opsem_append_rowsR (ho:o.op=.call ⟨.builtin .append,#[x,y],#[t,t]⟩) (ht:TOK P t i) (hk:i.k=.slc e) (he:TOK P e ie) (hsz:ie.size=1) {xs ys:List (List Int)} (hlim:xs.length+ys.length≤1000000000000) (hby:ie.bytes≤100) (kn:Nat) {k0:Option Nat} (hx0:dstX (get x) k0) {rd:List (Nat × Blk)}
  (hrd0:∀ k,k0=some k→(k,.rowsR xs)∈rd) (h0:k0=none→xs=[]) (hs:Zg2 rd (get y) 1 ys.length (fun Z w ν j es=>R Z w (.roI (ys.getD j [])) ν false es)):OpSem P o get (.own kn) rd (dstW kn (.rowsR (xs++ys)) k0) (some kn):=by
 have hmul:(xs.length+ys.length) * ie.bytes≤1000000000000 * 100:=Nat.mul_le_mul hlim hby
 refine Ze2 (n:=xs.length) (m:=ys.length) (B0:=.rowsR xs) ho ht hk he (by omega) (by simp only [lim];omega) (by simp only [lim];omega) kn hx0 hrd0 (fun Z w ν j es=>R Z w (.roI (xs.getD j [])) ν false es) ?_ (fun _ _ _ _ _ _ hz _ h=>Zbc (fun _ h=>h) hz h)
  (fun Z w ν j es=>R Z w (.roI (ys.getD j [])) ν false es) (by rw [hsz];exact hs) (fun _ _ _ _ _ _ hz _ h=>Zbc (fun _ h=>h) hz h) ?_ (fun _=>trivial)
 ·cases k0 with
  |none=>exact by rw [h0 rfl];rfl
  |some k=>rw [hsz];exact fun _ _ _ _ _ h=>h
 ·intro Z w ν ν' v F h
  show row w v 1 (xs++ys).length _ F
  rw [List.length_append,←hsz]
  refine Za3 (fun _ _=>rfl) (fun j es hj hje=>?_) h
  rw [Zk8 rfl]
  split
  ·rw [if_pos ‹_›] at hje;exact Zdi rfl hje
  ·rw [if_neg ‹_›] at hje;exact Zdi rfl hje
end
section
variable {o:Oper} {t e:Nat} {i ie:TI} {x y:Operand}
theorem opsem_append_avs (ho:o.op=.call ⟨.builtin .append,#[x,y],#[t,t]⟩) (ht:TOK P t i) (hk:i.k=.slc e) (he:TOK P e ie) {sz n:Nat} {f g:Nat→AV} (hsz:ie.size=sz) (hsp:0 < sz) (hlim:n+1≤1000000000) (hby:ie.bytes≤1000) (kn:Nat) {k0:Option Nat} (hx0:dstX (get x) k0) {rd:List (Nat × Blk)}
  (hrd0:∀ k,k0=some k→(k,.avs sz n f)∈rd) (h0:k0=none→n=0) (hf:∀ j,j < n→men noK (f j)=true) (hg:men noK (g 0)=true) (hs:Zg2 rd (get y) sz 1 (fun Z w _ _ es=>R Z w (g 0) nu0 false es)):OpSem P o get (.own kn) rd (dstW kn (.avs sz (n+1) (fun j=>if j < n then f j else g 0)) k0) (some kn):=by
 have hmul:(n+1) * ie.bytes≤1000000000 * 1000:=Nat.mul_le_mul hlim hby
 refine Ze2 (n:=n) (m:=1) (B0:=.avs sz n f) ho ht hk he (by omega) (by simp only [lim];omega) (by simp only [lim];omega) kn hx0 hrd0 (fun Z w ν j es=>R Z w (f j) ν false es) ?_ (fun _ _ _ _ _ _ hz _ h=>Zbc (fun _ h=>h) hz h)
  (fun Z w _ _ es=>R Z w (g 0) nu0 false es) (by rw [hsz];exact hs) (fun _ _ _ _ _ _ hz _ h=>Zbc (fun _ h=>h) hz h) ?_ (fun μ j hj=>?_)
 ·cases k0 with
  |none=>exact h0 rfl
  |some k=>rw [hsz];exact fun _ _ _ _ _ h=>h
 ·intro Z w ν ν' v F h
  show row w v sz (n+1) _ F
  rw [←hsz]
  refine Za3 (fun _ _=>rfl) (fun j es hj hje=>?_) h
  dsimp only at hje ⊢
  split
  ·rename_i hjn
   rw [if_pos hjn] at hje;exact Zdi (hf j hjn) hje
  ·rename_i hjn
   rw [if_neg hjn] at hje;exact Zdi hg hje
 ·dsimp only
  split
  ·rename_i hjn;exact Zce (hf j hjn)
  ·exact Zce hg
end
/-! ### Slices that are written out -/
theorem fill_seq {sz:Nat}:∀ (vs:List Value) (n i0:Nat) (cells:Array Value),(∀ v,v∈vs→v.cells.size=sz)→i0+vs.length≤n→cells.size=n * sz →
  Instr.fill (fun i=>some (i * sz,sz)) cells ((vs.zipIdx i0).map fun p=>(p.2,p.1))=some (cells.toList.take (i0 * sz)++(vs.flatMap fun v=>v.cells.toList)++cells.toList.drop ((i0+vs.length) * sz)).toArray:=by
 intro vs
 induction vs with
 |nil=>intro n i0 cells _ _ _;simp [Instr.fill]
 |cons v vs ih =>
  intro n i0 cells hv hle hsz
  have hv0:=hv v List.mem_cons_self
  have hmul:i0 * sz+sz≤n * sz:=by rw [←Nat.succ_mul];exact Nat.mul_le_mul_right _ (by simp at hle;omega)
  simp only [List.zipIdx_cons,List.map_cons,Instr.fill,hv0]
  rw [if_neg (by simp;omega)]
  have hs:=set_cells (i0 * sz) v.cells cells (by omega)
  rw [hs]
  have hvl:v.cells.toList.length=sz:=by simpa using hv0
  rw [ih n (i0+1) _ (fun u hu=>hv u (List.mem_cons_of_mem _ hu)) (by simp at hle;omega) (by simp;omega)]
  congr 1
  apply congrArg List.toArray
  have e1:(i0+1) * sz=i0 * sz+sz:=Nat.succ_mul ..
  have e2:(i0+1+vs.length) * sz=i0 * sz+sz+vs.length * sz:=by rw [Nat.add_mul,e1]
  have e3:(i0+(vs.length+1)) * sz=i0 * sz+sz+vs.length * sz:=by rw [←e2];congr 1;omega
  simp only [List.flatMap_cons,List.length_cons,e1,e2,e3]
  have a1:(cells.toList.take (i0 * sz)).length=i0 * sz:=by simp;omega
  rw [List.take_append_of_le_length (by simp;omega),List.take_of_length_le (by simp;omega)]
  rw [List.drop_append,List.drop_eq_nil_of_le (by simp;omega),List.nil_append,List.drop_drop]
  have a2:i0 * sz+sz+vs.length * sz - (List.take (i0 * sz) cells.toList++v.cells.toList).length=vs.length * sz:=by
   rw [List.length_append,a1,hvl];omega
  have a3:i0 * sz+v.cells.size+vs.length * sz=i0 * sz+sz+vs.length * sz:=by rw [hv0]
  rw [a2,a3]
  simp only [List.append_assoc]
end
end Go.Proofs.YtjcmlflljibikaaGreatDoor.Cal
