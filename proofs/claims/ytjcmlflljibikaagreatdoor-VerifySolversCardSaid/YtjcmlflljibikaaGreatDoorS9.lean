/- Own texts, merged. -/
import Derived.Test.YtjcmlflljibikaaGreatDoorProg
import Derived.WalkKit
import Derived.LaidEql
import Derived.Stop.Asserts
import Derived.RowKitTokens
import Derived.Deep.Slices
import Derived.Lib.SmallJoins
import Derived.ProofKit
import Derived.OpenShut
import Derived.ShutString
import Derived.ChangeOld
import Derived.Below
import Derived.SizedLaws
import Derived.RangeFuncIn
import Derived.RangeFuncRecord
import Derived.Test.YtjcmlflljibikaaGreatDoorS8
set_option linter.unusedVariables false
set_option linter.unusedSimpArgs false
open Nat (reduceAdd reduceSub reduceMul reduceEqDiff reduceLeDiff reduceLT)
namespace Go.Proofs.YtjcmlflljibikaaGreatDoor.Cal
open Go
section
variable {P:Program} {N κ:Nat} {get:Operand→AV}
def mfA (f:Nat) (u:AV):List Value→(Nat→Prop)→World→(Nat→Prop)→Prop:=fun ys Z w F=>(∀ y,¬ F y)∧∃ v,ys=[.func (.func f) #[v] #[]]∧R Z w u nu0 true [v]
def slH (f1 f2:Nat) (u:AV) (b:Nat) (Z:Nat→Prop) (w:World):Prop:=Z b∧∃ T v1 v2,w.heap[b]? = some (.cells #[.func (.func f1) #[v1] #[],.func (.func f2) #[v2] #[]] T (0,0))∧R Z w u nu0 true [v1]∧R Z w u nu0 true [v2]
def slA (f1 f2:Nat) (u:AV):List Value→(Nat→Prop)→World→(Nat→Prop)→Prop:=fun ys Z w F=>(∀ y,¬ F y)∧∃ b,ys=[.slice (some ⟨b,0,none⟩) 2 2]∧slH f1 f2 u b Z w
def paA (f1 f2:Nat) (u:AV) (i:Nat):List Value→(Nat→Prop)→World→(Nat→Prop)→Prop:=fun ys Z w F=>(∀ y,¬ F y)∧∃ b,ys=[.pointer (some ⟨b,i,none⟩)]∧slH f1 f2 u b Z w
theorem slH_mono {f1 f2:Nat} {u:AV} {b:Nat} {Z Z':Nat→Prop} {w w':World} (h:slH f1 f2 u b Z w) (hZ:∀ b,Z b→Z' b) (hw:∀ b,Z b→w'.heap[b]? = w.heap[b]?):slH f1 f2 u b Z' w':=by
 obtain ⟨h0,T,v1,v2,h1,h2,h3⟩:=h
 exact ⟨hZ _ h0,T,v1,v2,(hw b h0).trans h1,Zbc hZ hw h2,Zbc hZ hw h3⟩
theorem opsem_first {o:Oper} {f:Nat} {x:Operand} {u:AV} (ho:o.op=.makeFunc (.func f) #[x] #[]) (hu:get x=u) (hm:men noK u=true) (kn:Nat):OpSem P o get (.own kn) [] [(kn,some (.sem [kn] (mfA f u)))] (some kn):=by
 subst hu
 exact Zhr (ks:=[]) fun K Z ν w ev μ rs h1 hg hx hrd=>by
  obtain ⟨rx,_⟩:=hx x (by rw [ho];simp [Op.operands])
  refine ⟨.func (.func f) #[ev x] #[],?_,rfl,fun k hk=>(by cases hk),fun Z' w' hZ hw=>⟨fun y hy=>hy,ev x,rfl,Zdi hm (Zbc hZ hw rx)⟩⟩
  simp [execOp,ho,Instr.makeFunc,Sem.run_bind,Result.andThen,Sem.run]
theorem Zj9 {K Z:Nat→Prop} {w:World} {ν:Nat→Value} {μ:Nat→Bool} {rs:Rs} {k:Nat} {ks:List Nat} {A:List Value→(Nat→Prop)→World→(Nat→Prop)→Prop} (hg:GoodRs K Z w ν μ rs) (h:rs k=some (.sem ks A)):∃ F,A (ks.map ν) Z w F:=by
 obtain ⟨Ft,hF⟩:=hg
 obtain ⟨_,_,hs,_⟩:=hF k _ h
 exact ⟨_,hs Z w (fun _ h=>h) (fun _ _=>rfl)⟩
theorem opsem_len2 {o:Oper} {t k f1 f2:Nat} {u:AV} {x:Operand} (ho:o.op=.call ⟨.builtin .len,#[x],#[t]⟩) (hx:get x=.own k)
  (hrun:∀ (ev:Operand→Value) (w:World) (b:Nat),ev x=.slice (some ⟨b,0,none⟩) 2 2→(execOp ev o).run P w=.ok (.value (.int .i64 2)) w):OpSem P o get (.int .i64 2) [(k,.sem [k] (slA f1 f2 u))] [] none :=
 Zdb fun K Z ν w ev μ rs hone hg hv hrd=>by
  obtain ⟨rx,_⟩:=hv x (by rw [ho];simp [Op.operands,Call.operands])
  rw [hx] at rx
  have hx:=one1 rx
  obtain ⟨F,_,b,hy,_⟩:=Zj9 hg (hrd (k,.sem [k] (slA f1 f2 u)) (by simp))
  have hk:ν k=.slice (some ⟨b,0,none⟩) 2 2:=by simpa using hy
  exact ⟨_,hrun ev w b (hx.trans hk),rfl,rfl⟩
theorem opsem_at2 {o:Oper} {t k f1 f2:Nat} {u:AV} {x y:Operand} {i:Nat} (ho:o.op=.indexAddr t x y) (hx:get x=.own k) (hy:get y=.int .i64 i)
  (hrun:∀ (ev:Operand→Value) (w:World) (b:Nat),ev x=.slice (some ⟨b,0,none⟩) 2 2→ev y=.int .i64 i→(execOp ev o).run P w=.ok (.value (.pointer (some ⟨b,i,none⟩))) w) (kn:Nat):OpSem P o get (.own kn) [(k,.sem [k] (slA f1 f2 u))] [(kn,some (.sem [kn] (paA f1 f2 u i)))] (some kn) :=
 Zhr (ks:=[]) fun K Z ν w ev μ rs hone hg hv hrd=>by
  obtain ⟨rx,_⟩:=hv x (by rw [ho];simp [Op.operands])
  obtain ⟨ry,_⟩:=hv y (by rw [ho];simp [Op.operands])
  rw [hx] at rx
  rw [hy] at ry
  have hx:=one1 rx
  have hy:=one1 ry
  obtain ⟨F,_,b,hs,hH⟩:=Zj9 hg (hrd (k,.sem [k] (slA f1 f2 u)) (by simp))
  have hk:ν k=.slice (some ⟨b,0,none⟩) 2 2:=by simpa using hs
  exact ⟨_,hrun ev w b (hx.trans hk) hy,rfl,fun k hk=>(by cases hk),fun Z' w' hZ hw=>⟨fun y hy=>hy,b,rfl,slH_mono hH hZ hw⟩⟩
theorem opsem_ld2 {o:Oper} {t k f1 f2 f:Nat} {u:AV} {x:Operand} {i:Nat} (ho:o.op=.load t x) (hx:get x=.own k) (hf:(i=0∧f=f1)∨(i=1∧f=f2))
  (hrun:∀ (ev:Operand→Value) (w:World) (b:Nat) (v:Value),ev x=.pointer (some ⟨b,i,none⟩)→w.cell? ⟨b,i,none⟩=some v→(execOp ev o).run P w=.ok (.value v) w) (kn:Nat):OpSem P o get (.own kn) [(k,.sem [k] (paA f1 f2 u i))] [(kn,some (.sem [kn] (mfA f u)))] (some kn) :=
 Zhr (ks:=[]) fun K Z ν w ev μ rs hone hg hv hrd=>by
  obtain ⟨rx,_⟩:=hv x (by rw [ho];simp [Op.operands])
  rw [hx] at rx
  have hx:=one1 rx
  obtain ⟨F,_,b,hs,hZb,T,v1,v2,hh,r1,r2⟩:=Zj9 hg (hrd (k,.sem [k] (paA f1 f2 u i)) (by simp))
  have hk:ν k=.pointer (some ⟨b,i,none⟩):=by simpa using hs
  rcases hf with ⟨rfl,rfl⟩|⟨rfl,rfl⟩
  ·refine ⟨_,hrun ev w b (.func (.func f) #[v1] #[]) (hx.trans hk) (by simp [World.cell?,hh]),rfl,fun k hk=>(by cases hk),fun Z' w' hZ hw=>⟨fun y hy=>hy,v1,rfl,Zbc hZ hw r1⟩⟩
  ·refine ⟨_,hrun ev w b (.func (.func f) #[v2] #[]) (hx.trans hk) (by simp [World.cell?,hh]),rfl,fun k hk=>(by cases hk),fun Z' w' hZ hw=>⟨fun y hy=>hy,v2,rfl,Zbc hZ hw r2⟩⟩
theorem opsem_sl2 {o:Oper} {t e k1 k2 f1 f2:Nat} {u:AV} {x y:Operand} (ho:o.op=.buildSlice t 2 #[(0,x),(1,y)]) (hx:get x=.own k1) (hy:get y=.own k2)
  (hrun:∀ (ev:Operand→Value) (w:World) (v1 v2:Value),ev x=.func (.func f1) #[v1] #[]→ev y=.func (.func f2) #[v2] #[]→(execOp ev o).run P w=.ok (.value (.slice (some ⟨w.heap.size,0,none⟩) 2 2)) (w.alloc (.cells #[.func (.func f1) #[v1] #[],.func (.func f2) #[v2] #[]] e))) (kn:Nat) :
  OpSem P o get (.own kn) [(k1,.sem [k1] (mfA f1 u)),(k2,.sem [k2] (mfA f2 u))] [(kn,some (.sem [kn] (slA f1 f2 u)))] (some kn) :=
 ⟨fun K Z ν w ev μ rs h1 hg hzk hkl hv hrd hkn=>by
  have hk2:=hkn kn rfl
  obtain ⟨rx,_⟩:=hv x (by rw [ho];simp [Op.operands])
  obtain ⟨ry,_⟩:=hv y (by rw [ho];simp [Op.operands])
  rw [hx] at rx
  rw [hy] at ry
  have hx:=one1 rx
  have hy:=one1 ry
  obtain ⟨F1,_,v1,hs1,r1⟩:=Zj9 hg (hrd (k1,.sem [k1] (mfA f1 u)) (by simp))
  obtain ⟨F2,_,v2,hs2,r2⟩:=Zj9 hg (hrd (k2,.sem [k2] (mfA f2 u)) (by simp))
  have e1:ν k1=.func (.func f1) #[v1] #[]:=by simpa using hs1
  have e2:ν k2=.func (.func f2) #[v2] #[]:=by simpa using hs2
  have hr:=hrun ev w v1 v2 (hx.trans e1) (hy.trans e2)
  have hs:=Zds (Z:=Z) hkl (.cells #[.func (.func f1) #[v1] #[],.func (.func f2) #[v2] #[]] e)
  have hzb:∀ b,Z b→(w.alloc (.cells #[.func (.func f1) #[v1] #[],.func (.func f2) #[v2] #[]] e)).heap[b]? = w.heap[b]?:=fun b hb=>Zbi _ (hkl b (hzk b hb))
  have hg1:GoodRs (un K (fun b=>Z b∨b=w.heap.size)) (fun b=>Z b∨b=w.heap.size) (w.alloc (.cells #[.func (.func f1) #[v1] #[],.func (.func f2) #[v2] #[]] e)) ν μ rs:=hg.mono (fun _ h=>.inl h) hzb (by simp) (fun b hb=>by
   rcases hb with h|h|h
   ·exact .inl h
   ·exact .inl (hzk b h)
   ·exact .inr (by omega)) (fun b _ hb=>Zbi _ hb)
  have hlt:∀ b,un K (fun b=>Z b∨b=w.heap.size) b→b < (w.alloc (.cells #[.func (.func f1) #[v1] #[],.func (.func f2) #[v2] #[]] e)).heap.size:=fun b hb=>by
   have:b < w.heap.size+1:=by
    rcases hb with h|h|h
    ·have:=hkl b h;omega
    ·have:=hkl b (hzk b h);omega
    ·omega
   simpa using this
  have hH:slH f1 f2 u w.heap.size (fun b=>Z b∨b=w.heap.size) (w.alloc (.cells #[.func (.func f1) #[v1] #[],.func (.func f2) #[v2] #[]] e)):=⟨.inr rfl,e,v1,v2,Zd3 _,Zbc (fun _ h=>.inl h) hzb r1,Zbc (fun _ h=>.inl h) hzb r2⟩
  refine ⟨_,_,upN ν kn (.slice (some ⟨w.heap.size,0,none⟩) 2 2),fun b=>Z b∨b=w.heap.size,.inl hr,⟨hs.ext,fun _ h=>.inl h,fun b hb=>hb.imp id (fun e hK=>by have:=hkl b hK;omega)⟩,Zcd hk2,Zdm h1 rfl,?_,?_,Zbz,fun b hb=>hlt b (.inr hb)⟩
  ·refine Zew (F:=fun _=>False) hg1 (fun b hb=>.inr hb) hlt hk2 (Nat.le_refl _) (fun _ _=>rfl) ?_ (fun k hk=>?_) (fun y hy=>hy.elim)
   ·intro Z' w' hZ hw
    refine ⟨fun y hy=>hy,w.heap.size,?_,slH_mono hH hZ (fun b hb=>hw b (.inl hb))⟩
    show [upN ν kn _ kn]=_
    rw [upN_same]
   ·rw [List.mem_singleton.1 hk];exact Zbz
  ·show [_]=[_];rw [upN_same]⟩
theorem awpL_callB {ro:Option Nat} {o:Oper} {x:Operand} {ts:Array TypeId} {f k m:Nat} {u:AV} {env:List (Nat × AV)} {l:List (Nat × Option Blk)} {ms:List Nat} {Q0:GR→Prop} {Q:Exit→St→Prop}
  (hS:FG P f [u] [] 0 Q0) (ho:o.op=.call ⟨.value x,#[],ts⟩) (hgd:o.guard.isNone=true) (hd:Zdq N [o]=true) (hx:opv (lke env) x=.own k) (hk:lkr l k=some (.sem [k] (mfA f u))) (hmu:men noK u=true) (hκ:Nat.ble κ m=true)
  (next:∀ gm gv gr,Q0 ⟨gm,gv,gr⟩→∀ m' e' l',(m+(gm - 0)=m'∧putE o.dst (ren (rhoC [] m) gv) env=e'∧outR [] m gr l=l')→Q .normal (CS.st ⟨m',e',l',ms⟩)):awpL P ro N κ [o] (CS.st ⟨m,env,l,ms⟩) Q:=by
 obtain ⟨⟨fn,hfn,hname,hbody⟩,_⟩:=id hS
 refine awpL_callX (s:=⟨m,env,l,ms⟩) [] (hS.fp (E:=fun _=>False)) hgd hd (fun K Z w ν a hg=>?_) (Zce (show men noK (mkL [u])=true by simp [mkL,men,hmu])) rfl hκ (fun j B hj=>by cases hj) (fun g hg hle=>next g.m g.val g.rs hg _ _ _ ⟨rfl,rfl,rfl⟩) (fun c h=>h.elim)
 have rx:=Zih hg x
 rw [show opv (CS.st ⟨m,env,l,ms⟩).env x=opv (lke env) x from rfl,hx] at rx
 have ex:=one1 rx
 obtain ⟨F,_,v,hs,r⟩:=Zj9 hg.rs hk
 have ek:ν k=.func (.func f) #[v] #[]:=by simpa using hs
 refine ⟨[v],?_,R_ren.2 ⟨v,[],rfl,Zdi hmu r,rfl⟩⟩
 rw [Zbq (by rw [ho];intro c hc;cases hc)]
 simp [execOp,ho,resolve,ex,ek,Deferred.ofValue,invoke,callFunc,hfn,Sem.run_bind,Result.andThen,Sem.run,program]
 have hname' : ¬ fn.name = "runtime.NumGoroutine" := by simpa using hname
 cases hb:fn.body with
 |none=>rw [hb] at hbody;cases hbody
 |some c=>simp [hname',hb,Sem.run]
end
open Go Pl
def errU (u:AV):Blk:=.sem [0] (ifA 59 u)
def sayP (s l:List Int) (u:AV):Prop:=u=.agg (.cons (.roI s) (.cons (.roI l) .nil))∨(s=[]∧u=.agg (.cons (.cst (.slice none 0 0)) (.cons (.roI l) .nil)))
theorem Zom : Tryz.prog.underlying 62=some (.interface (Tryz.prog.methodsAt 62)):=by kernel_rfl
def clA (o p:List Int) (x:List (List Int)) (w c:List Int):AV:=.agg (.cons (.roI o) (.cons (.roI p) (.cons (.roII x) (.cons (.roI w) (.cons (.roI c) .nil)))))
theorem left_fg2 {o p w c:List Int} {x:List (List Int)} (hv:Zau ⟨o,p,x⟩=true) (hc:Zcy ⟨o,p,x⟩ w c=true) :
  FG Tryz.prog 44 [clA o p x w c] [] 0 fun g=>((∀ v,v < o.length→∀ u,u∈nxVn ⟨o,p,x⟩ w c (w.getD v 0) v→w.getD u 0=w.getD v 0)∧g=⟨0,.cst .nilIface,[]⟩)∨∃ s l u,CpOK ⟨o,p,x⟩ w c s l∧sayP s l u∧g=⟨1,.own 0,[(0,some (errU u))]⟩ :=
 (left_fg hv hc).mono fun g h=>h.imp id fun ⟨s,l,h1,h2⟩=>⟨s,l,_,h1,.inl rfl,h2⟩
theorem lost_fg2 {o p w c:List Int} {x:List (List Int)} (hv:Zau ⟨o,p,x⟩=true) (hc:Zcy ⟨o,p,x⟩ w c=true) :
  FG Tryz.prog 45 [clA o p x w c] [] 0 fun g=>((∀ v,v < o.length→p.getD v 0 % 2≠w.getD v 0→¬ Cyc (fun a b=>b∈nxVn ⟨o,p,x⟩ w c (w.getD v 0) a) (fun v=>p.getD v 0) v)∧g=⟨0,.cst .nilIface,[]⟩)∨∃ s l u,CpOK ⟨o,p,x⟩ w c s l∧sayP s l u∧g=⟨1,.own 0,[(0,some (errU u))]⟩ :=
 (lost_fg hv hc).mono fun g h=>h.imp id fun ⟨l,h1,h2⟩=>⟨[],l,_,h1,.inr ⟨rfl,rfl⟩,h2⟩
theorem len2_run {ev:Operand→Value} {w:World} {b:Nat} {o:Oper} (ho:o.op=.call ⟨.builtin .len,#[.tmp 10],#[110]⟩) (h:ev (.tmp 10)=.slice (some ⟨b,0,none⟩) 2 2):(execOp ev o).run Tryz.prog w=.ok (.value (.int .i64 2)) w:=by
 simp only [execOp,ho,resolve]
 simp [h]
 kernel_rfl
theorem at2_run {ev:Operand→Value} {w:World} {b i:Nat} {o:Oper} (ho:o.op=.indexAddr 110 (.tmp 10) (.tmp 12)) (h:ev (.tmp 10)=.slice (some ⟨b,0,none⟩) 2 2) (h2:ev (.tmp 12)=.int .i64 i) (hi:i=0∨i=1):(execOp ev o).run Tryz.prog w=.ok (.value (.pointer (some ⟨b,i,none⟩))) w:=by
 simp only [execOp,ho,h,h2]
 rcases hi with rfl|rfl<;>kernel_rfl
theorem ld2_run {ev:Operand→Value} {w:World} {b i:Nat} {v:Value} {o:Oper} (ho:o.op=.load 63 (.tmp 14)) (h:ev (.tmp 14)=.pointer (some ⟨b,i,none⟩)) (h2:w.cell? ⟨b,i,none⟩=some v):(execOp ev o).run Tryz.prog w=.ok (.value v) w:=by
 have hl:(Instr.loadAt 63 (.pointer (some ⟨b,i,none⟩))).run Tryz.prog w=.ok v w:=by
  have ha:(isAgg 63).run Tryz.prog w=.ok false w:=by kernel_rfl
  simp [Instr.loadAt,Instr.sureAddr,loadVar,Sem.run_bind,ha,Result.andThen,load,Sem.run,h2]
 simp only [execOp,ho,h]
 simp [Sem.run_bind,hl,Result.andThen,Sem.run]
theorem sl2_run {ev:Operand→Value} {w:World} {v1 v2:Value} {o:Oper} (ho:o.op=.buildSlice 110 2 #[(0,.tmp 7),(1,.tmp 9)]) (h:ev (.tmp 7)=.func (.func 44) #[v1] #[]) (h2:ev (.tmp 9)=.func (.func 45) #[v2] #[]):(execOp ev o).run Tryz.prog w=.ok (.value (.slice (some ⟨w.heap.size,0,none⟩) 2 2)) (w.alloc (.cells #[.func (.func 44) #[v1] #[],.func (.func 45) #[v2] #[]] 63)):=by
 simp only [execOp,ho]
 simp [h,h2]
 kernel_rfl
set_option maxRecDepth 4000 in
set_option maxHeartbeats 4000000 in
theorem right_fg {o p w c:List Int} {x:List (List Int)} (hv:Zau ⟨o,p,x⟩=true) (hc:Zcy ⟨o,p,x⟩ w c=true) :
  FG Tryz.prog 23 [clA o p x w c] [] 0 fun g=>(solB ⟨o,p,x⟩ w c=true∧g=⟨0,.cst .nilIface,[]⟩)∨∃ s l u,CpOK ⟨o,p,x⟩ w c s l∧sayP s l u∧g=⟨1,.own 0,[(0,some (errU u))]⟩:=by
 refine Zc5 htb (fn:=Tryz.f23) (by kernel_rfl) (by kernel_rfl) rfl (Nat.le_of_ble_eq_true rfl) fun hl=>?_
 simp only [lenP,mkL,lim] at hl
 have hl2:=left_fg2 hv hc
 have hl3:=lost_fg2 hv hc
 have hrs:=right_sol hv hc
 obtain ⟨U,hU⟩:∃ U,clA o p x w c=U:=⟨_,rfl⟩
 have hmU:men noK U=true:=by rw [←hU];rfl
 rw [hU] at hl2 hl3
 unfold clA at hU ⊢
 repeat' first|exact gE|refine gS noSp x0 [1] ?_|refine gO noSp x0 [1] ?_ ?_|refine gC ?_ ?_<;>intro hb
 refine Zcf rfl ?_
 refine Zb6 (l1:=[_]) (l2:=[_,_,_,_,_,_]) ?_
 refine gTn noSp x0 ?_ ?_
 ·first|exact oA|skip
 refine Zc7 (opsem_first rfl hU hmU _) rfl rfl (fun c h=>by cases h) Zan (.inr rfl) rfl ?_
 dsimp only [putE,setW,reduceAdd]
 refine Zb6 (l1:=[_]) (l2:=[_,_,_,_]) ?_
 refine gTn noSp x0 ?_ ?_
 ·first|exact oA|skip
 refine Zc7 (opsem_first rfl hU hmU _) rfl rfl (fun c h=>by cases h) Zan (.inr rfl) rfl ?_
 dsimp only [putE,setW,reduceAdd]
 refine Zc7 (opsem_sl2 (u:=U) rfl rfl rfl (fun ev w v1 v2=>sl2_run rfl) _) rfl rfl (fun c h=>by cases h) ?_ (.inr rfl) rfl ?_
 ·exact Zcp rfl (Zat rfl)
 dsimp only [putE,setW,reduceAdd]
 refine Zc7 (opsem_len2 (f1:=44) (f2:=45) (u:=U) rfl rfl fun ev w b=>len2_run rfl) rfl rfl (fun c h=>by cases h) ?_ (.inl rfl) rfl ?_
 ·exact Zat rfl
 dsimp only [putE,setW,reduceAdd]
 refine gT noSp x0 ?_ ?_
 ·first|exact oA|skip
 refine Zaf ?_
 repeat' first|exact gE|refine gS noSp x0 [2] ?_|refine gO noSp x0 [2] ?_ ?_|refine gC ?_ ?_<;>intro hb
 refine Zag (τ:=Nat) (fun i=>i≤2∧(0 < i→∀ v,v < o.length→∀ u,u∈nxVn ⟨o,p,x⟩ w c (w.getD v 0) v→w.getD u 0=w.getD v 0)∧(1 < i→∀ v,v < o.length→p.getD v 0 % 2≠w.getD v 0→¬ Cyc (fun a b=>b∈nxVn ⟨o,p,x⟩ w c (w.getD v 0) a) (fun v=>p.getD v 0) v)) (fun i=>⟨9,[(12,.int .i64 i),(11,.int .i64 2),(10,.own 6),(2,.cst .nilIface)],[(6,some (.sem [6] (slA 44 45 U)))],[]⟩) (fun i=>2 - i) 0 [] ?_ ⟨by omega,(fun h=>by omega),(fun h=>by omega)⟩ ?_
 ·first|exact leZ x0|refine leA x0 ?_|refine leB x0 ?_ ?_
  intro k hk
  rw [List.mem_singleton.1 hk]
  rfl
 rintro i ⟨hi,hI,hJ⟩
 repeat' first|exact gE|refine gS noSp x0 [3] ?_|refine gO noSp x0 [3] ?_ ?_|refine gC ?_ ?_<;>intro hb
 ·have hi2:i=0∨i=1:=by omega
  rcases hi2 with rfl|rfl
  ·refine Zcf rfl ?_
   refine Zc7 (opsem_at2 (f1:=44) (f2:=45) (u:=U) rfl rfl rfl (fun ev w b h h2=>at2_run rfl h h2 (by omega)) _) rfl rfl (fun c h=>by cases h) (Zat rfl) (.inr rfl) rfl ?_
   dsimp only [putE,setW,reduceAdd]
   refine Zc7 (opsem_ld2 (f1:=44) (f2:=45) (u:=U) (f:=44) rfl rfl (.inl ⟨rfl,rfl⟩) (fun ev w b v=>ld2_run rfl) _) rfl rfl (fun c h=>by cases h) (Zat rfl) (.inr rfl) rfl ?_
   dsimp only [putE,setW,reduceAdd]
   refine gT noSp x0 ?_ ?_
   ·first|exact oA|skip
   refine Zaf ?_
   repeat' first|exact gE|refine gS noSp x0 [4] ?_|refine gO noSp x0 [4] ?_ ?_|refine gC ?_ ?_<;>intro hb
   refine Zcf rfl ?_
   refine Zb6 (l1:=[_]) (l2:=[_,_]) ?_
   refine gTn noSp x0 ?_ ?_
   ·first|exact oA|skip
   refine Zb6 (l1:=[_]) (l2:=[_]) ?_
   refine awpL_callB hl2 rfl rfl rfl rfl rfl hmU rfl ?_
   intro gm gv gr hq m' e' l' h
   rcases hq with ⟨hno,hq⟩|⟨s,l,u,hcp,hsy,hq⟩
   ·refine gCf hq h x0 ?_
    refine gT noSp x0 ?_ ?_
    ·first|exact oA|skip
    refine Zaf ?_
    repeat' first|exact gE|refine gS noSp x0 [5] ?_|refine gO noSp x0 [5] ?_ ?_|refine gC ?_ ?_<;>intro hb
    refine Za2 ([_]) ([]) rfl rfl ?_
    refine gTn noSp x0 ?_ ?_
    ·first|exact oA|skip
    refine Zc7 (opsem_neqif0 rfl Zom rfl rfl) rfl rfl (fun c h=>by cases h) Zan (.inl rfl) rfl ?_
    refine Zcl ?_
    refine Zaf ?_
    refine Zcl ?_
    refine Zaf ?_
    dsimp only [putE,setW,reduceAdd]
    repeat' first|exact gE|refine gS noSp x0 [] ?_|refine gO noSp x0 [] ?_ ?_|refine gC ?_ ?_<;>intro hb
    ·cases hb
    ·refine back 1 [] ?_ ⟨by omega,(fun _=>hno),(fun h=>by omega)⟩ (by omega)
     first|exact leZ x0|refine leA x0 ?_|refine leB x0 ?_ ?_
     ·rfl
     ·intro k hk
      rw [List.mem_singleton.1 hk];rfl
   ·refine gCf hq h x0 ?_
    refine gT noSp x0 ?_ ?_
    ·first|exact oA|skip
    refine Zaf ?_
    repeat' first|exact gE|refine gS noSp x0 [5] ?_|refine gO noSp x0 [5] ?_ ?_|refine gC ?_ ?_<;>intro hb
    refine Za2 ([_]) ([]) rfl rfl ?_
    refine gTn noSp x0 ?_ ?_
    ·first|exact oA|skip
    refine Zc7 (opsem_neqif (u:=u) (t2:=59) rfl Zom rfl rfl) rfl rfl (fun c h=>by cases h) (Zat rfl) (.inl rfl) rfl ?_
    refine Zcl ?_
    refine Zaf ?_
    refine Zcl ?_
    refine Zaf ?_
    dsimp only [putE,setW,reduceAdd]
    repeat' first|exact gE|refine gS noSp x0 [] ?_|refine gO noSp x0 [] ?_ ?_|refine gC ?_ ?_<;>intro hb
    ·refine Zab rfl rfl (Zbe ⟨1,.own 0,[(0,some (errU u))]⟩ [(0,14)] (.inr ⟨_,_,_,hcp,hsy,rfl⟩) rfl (Zal rfl) ?_)
     simp only [grR,errU,zE,evp,evx,ev1,evLoad,evStore,evBin,evIf,Zac,forall_const,z38,tb,reduceAdd,reduceSub,reduceMul,reduceEqDiff,reduceLeDiff,reduceLT,Nat.reduceBEq,Nat.reduceBNe,↓reduceIte,reduceIte]
     intro k hk
     rw [List.mem_singleton.1 hk];rfl
    ·cases hb
  ·refine Zcf rfl ?_
   refine Zc7 (opsem_at2 (f1:=44) (f2:=45) (u:=U) rfl rfl rfl (fun ev w b h h2=>at2_run rfl h h2 (by omega)) _) rfl rfl (fun c h=>by cases h) (Zat rfl) (.inr rfl) rfl ?_
   dsimp only [putE,setW,reduceAdd]
   refine Zc7 (opsem_ld2 (f1:=44) (f2:=45) (u:=U) (f:=45) rfl rfl (.inr ⟨rfl,rfl⟩) (fun ev w b v=>ld2_run rfl) _) rfl rfl (fun c h=>by cases h) (Zat rfl) (.inr rfl) rfl ?_
   dsimp only [putE,setW,reduceAdd]
   refine gT noSp x0 ?_ ?_
   ·first|exact oA|skip
   refine Zaf ?_
   repeat' first|exact gE|refine gS noSp x0 [4] ?_|refine gO noSp x0 [4] ?_ ?_|refine gC ?_ ?_<;>intro hb
   refine Zcf rfl ?_
   refine Zb6 (l1:=[_]) (l2:=[_,_]) ?_
   refine gTn noSp x0 ?_ ?_
   ·first|exact oA|skip
   refine Zb6 (l1:=[_]) (l2:=[_]) ?_
   refine awpL_callB hl3 rfl rfl rfl rfl rfl hmU rfl ?_
   intro gm gv gr hq m' e' l' h
   rcases hq with ⟨hno,hq⟩|⟨s,l,u,hcp,hsy,hq⟩
   ·refine gCf hq h x0 ?_
    refine gT noSp x0 ?_ ?_
    ·first|exact oA|skip
    refine Zaf ?_
    repeat' first|exact gE|refine gS noSp x0 [5] ?_|refine gO noSp x0 [5] ?_ ?_|refine gC ?_ ?_<;>intro hb
    refine Za2 ([_]) ([]) rfl rfl ?_
    refine gTn noSp x0 ?_ ?_
    ·first|exact oA|skip
    refine Zc7 (opsem_neqif0 rfl Zom rfl rfl) rfl rfl (fun c h=>by cases h) Zan (.inl rfl) rfl ?_
    refine Zcl ?_
    refine Zaf ?_
    refine Zcl ?_
    refine Zaf ?_
    dsimp only [putE,setW,reduceAdd]
    repeat' first|exact gE|refine gS noSp x0 [] ?_|refine gO noSp x0 [] ?_ ?_|refine gC ?_ ?_<;>intro hb
    ·cases hb
    ·refine back 2 [] ?_ ⟨by omega,(fun _=>hI (by omega)),(fun _=>hno)⟩ (by omega)
     first|exact leZ x0|refine leA x0 ?_|refine leB x0 ?_ ?_
     ·rfl
     ·intro k hk
      rw [List.mem_singleton.1 hk];rfl
   ·refine gCf hq h x0 ?_
    refine gT noSp x0 ?_ ?_
    ·first|exact oA|skip
    refine Zaf ?_
    repeat' first|exact gE|refine gS noSp x0 [5] ?_|refine gO noSp x0 [5] ?_ ?_|refine gC ?_ ?_<;>intro hb
    refine Za2 ([_]) ([]) rfl rfl ?_
    refine gTn noSp x0 ?_ ?_
    ·first|exact oA|skip
    refine Zc7 (opsem_neqif (u:=u) (t2:=59) rfl Zom rfl rfl) rfl rfl (fun c h=>by cases h) (Zat rfl) (.inl rfl) rfl ?_
    refine Zcl ?_
    refine Zaf ?_
    refine Zcl ?_
    refine Zaf ?_
    dsimp only [putE,setW,reduceAdd]
    repeat' first|exact gE|refine gS noSp x0 [] ?_|refine gO noSp x0 [] ?_ ?_|refine gC ?_ ?_<;>intro hb
    ·refine Zab rfl rfl (Zbe ⟨1,.own 0,[(0,some (errU u))]⟩ [(0,14)] (.inr ⟨_,_,_,hcp,hsy,rfl⟩) rfl (Zal rfl) ?_)
     simp only [grR,errU,zE,evp,evx,ev1,evLoad,evStore,evBin,evIf,Zac,forall_const,z38,tb,reduceAdd,reduceSub,reduceMul,reduceEqDiff,reduceLeDiff,reduceLT,Nat.reduceBEq,Nat.reduceBNe,↓reduceIte,reduceIte]
     intro k hk
     rw [List.mem_singleton.1 hk];rfl
    ·cases hb
 ·have hie:i=2:=by omega
  subst hie
  repeat' first|exact gE|refine gS noSp x0 [] ?_|refine gO noSp x0 [] ?_ ?_|refine gC ?_ ?_<;>intro hb
  refine Zab rfl rfl (Zbe ⟨0,.cst .nilIface,[]⟩ [] (.inl ⟨hrs (hI (by omega)) (hJ (by omega)),rfl⟩) rfl (Zal rfl) trivial)
end Go.Proofs.YtjcmlflljibikaaGreatDoor.Cal
namespace Go.Proofs.YtjcmlflljibikaaGreatDoor.AsB
open Go Go.Proofs Go.RowKit Go.Extern.Stop Go.Stop Go.Extern
theorem as_nil (t:Value) (w:World) :
  Calls Tryz.prog 22 #[.nilIface,t] w fun e w'=>e=.returned (.bool false)∧w'=w:=by
 go_enter Tryz.func22,Tryz.ntmps22
 go_wp2
 go_ret
 exact ⟨rfl,rfl⟩
theorem valueOf70 (t:Addr) (w:World):(ReflectliteValue.unpack (.iface 64 (.pointer (some t)))).run Tryz.prog w
  = .ok (.agg #[.pointer (some ⟨1,64,none⟩),.pointer (some ⟨w.heap.size,0,none⟩),.int .u64 150]) (w.alloc (.cells #[.pointer (some t)] 64)):=by kernel_rfl
theorem type70 (a : Addr) (w : World) : (ReflectliteValue.methodAny (ReflectliteValue.valueError "reflectlite.Value.Type" 0) (fun t _ _ _ => ReflectliteType.toType t) #[.agg #[.pointer (some ⟨1, 64, none⟩), .pointer (some a), .int .u64 150]]).run Tryz.prog w
  = .ok (.iface 137 (.agg #[.pointer (some ⟨1,64,none⟩)])) w:=by kernel_rfl
theorem kind70 (w:World):((ReflectliteType.abiMethod fun t=>(fun a:Nat=>Value.int IntKind.u8 (a:Int)) <$> Rtype.kind t) #[.pointer (some ⟨1,64,none⟩)]).run Tryz.prog w=.ok (.int .u8 22) w:=by kernel_rfl
theorem kind65 (w:World):((ReflectliteType.abiMethod fun t=>(fun a:Nat=>Value.int IntKind.u8 (a:Int)) <$> Rtype.kind t) #[.pointer (some ⟨1,59,none⟩)]).run Tryz.prog w=.ok (.int .u8 25) w:=by kernel_rfl
theorem rlm (z:Sem Value) (f:TypeId→Addr→Nat→Nat→Sem Value) (v:Value) :
  ReflectliteValue.method z f #[v]=(do match ←ReflectliteValue.parts v with|none=>z|some (t,a,fl)=>f t a fl (fl % 32)):=rfl
theorem parts70 (a:Addr) (w:World):(ReflectliteValue.parts (.agg #[.pointer (some ⟨1,64,none⟩),.pointer (some a),.int .u64 150])).run Tryz.prog w=.ok (some (64,a,150)) w:=by kernel_rfl
theorem isNil70 (a p:Addr) (W:World) (ha:W.cell? a=some (.pointer (some p))) :
  (ReflectliteValue.method (ReflectliteValue.valueError "reflectlite.Value.IsNil" 0) ReflectliteValue.isNil #[.agg #[.pointer (some ⟨1, 64, none⟩), .pointer (some a), .int .u64 150]]).run Tryz.prog W = .ok (.bool false) W := by
 rw [rlm]
 simp only [Sem.run_bind,parts70,Result.andThen]
 simp [ReflectliteValue.isNil,loadVar,isAgg,underlying,Tryz.underlying64,ha,Result.andThen]
theorem elem70 (w:World):(ReflectliteType.method ReflectliteType.elem #[.agg #[.pointer (some ⟨1,64,none⟩)]]).run Tryz.prog w=.ok (.iface 137 (.agg #[.pointer (some ⟨1,59,none⟩)])) w:=by kernel_rfl
theorem implements65 (w : World) : (ReflectliteType.relation "Implements" ReflectliteType.implements_ #[.agg #[.pointer (some ⟨1, 59, none⟩)], .iface 137 (.agg #[.pointer (some ⟨1, 62, none⟩)])]).run Tryz.prog w = .ok (.bool true) w := by kernel_rfl
theorem typeOf65 (v:Value) (w:World):(ReflectliteType.typeOf #[.iface 59 v]).run Tryz.prog w=.ok (.iface 137 (.agg #[.pointer (some ⟨1,59,none⟩)])) w:=by kernel_rfl
theorem assignable65 (w : World) : (ReflectliteType.relation "AssignableTo" ReflectliteType.assignableTo #[.agg #[.pointer (some ⟨1, 59, none⟩)], .iface 137 (.agg #[.pointer (some ⟨1, 59, none⟩)])]).run Tryz.prog w = .ok (.bool true) w := by kernel_rfl
theorem valueOf65 (x y:Value) (w:World):(ReflectliteValue.unpack (.iface 59 (.agg #[x,y]))).run Tryz.prog w
  = .ok (.agg #[.pointer (some ⟨1,59,none⟩),.pointer (some ⟨w.heap.size,0,none⟩),.int .u64 153]) (w.alloc (.cells #[x,y] 59)):=by kernel_rfl
theorem elemOf70 (w:World):(Rtype.elem? 64).run Tryz.prog w=.ok (some 59) w:=by kernel_rfl
theorem mk65 (p:Addr) (w:World):(ReflectliteValue.mk 59 p ReflectliteValue.flagAddr).run Tryz.prog w=.ok (.agg #[.pointer (some ⟨1,59,none⟩),.pointer (some p),.int .u64 409]) w:=by kernel_rfl
theorem elemV70 (a p:Addr) (W:World) (ha:W.cell? a=some (.pointer (some p))) :
  (ReflectliteValue.method (ReflectliteValue.valueError "reflectlite.Value.Elem" 0) ReflectliteValue.elem #[.agg #[.pointer (some ⟨1, 64, none⟩), .pointer (some a), .int .u64 150]]).run Tryz.prog W
   = .ok (.agg #[.pointer (some ⟨1,59,none⟩),.pointer (some p),.int .u64 409]) W:=by
 rw [rlm]
 simp only [Sem.run_bind,parts70,Result.andThen]
 simp [ReflectliteValue.elem,loadVar,isAgg,underlying,Tryz.underlying64,ha,Result.andThen,elemOf70,mk65]
theorem rls (v x:Value):ReflectliteValue.set #[v,x]=(do
  let (some (dst,a,fl),some (src,b,_)):=(←ReflectliteValue.parts v,←ReflectliteValue.parts x)
   |unsupported (.noEntry "extern/(internal/reflectlite.Value).Set.zeroValue")
  if fl / ReflectliteValue.flagAddr % 2 == 0 then unsupported (.noEntry "extern/(internal/reflectlite.Value).Set.unaddressable")
  let val ←loadVar src b
  if ←Rtype.directlyAssignable dst src then storeVar dst a val
  else if ←Rtype.implements dst src then
   if (←Rtype.kind src) == 20 then
    match val with
    |.nilIface => unsupported (.noEntry "extern/reflectlite: a nil value of one interface type handed on as a value of another")
    |_=>storeVar dst a val
   else storeVar dst a (.iface src val)
  else panicString ("reflectlite.Set: value of type " ++ (← Rtype.spelt src) ++ " is not assignable to type " ++ (← Rtype.spelt dst))
  pure (.tuple #[])):=rfl
theorem parts65a (a:Addr) (w:World):(ReflectliteValue.parts (.agg #[.pointer (some ⟨1,59,none⟩),.pointer (some a),.int .u64 409])).run Tryz.prog w=.ok (some (59,a,409)) w:=by kernel_rfl
theorem parts65 (a:Addr) (w:World):(ReflectliteValue.parts (.agg #[.pointer (some ⟨1,59,none⟩),.pointer (some a),.int .u64 153])).run Tryz.prog w=.ok (some (59,a,153)) w:=by kernel_rfl
theorem direct65 (w:World):(Rtype.directlyAssignable 59 59).run Tryz.prog w=.ok true w:=by kernel_rfl
theorem set65 (ta b:Addr) (x y o1 o2:Value) (W:World) (hx:x.oneCell'=true) (hy:y.oneCell'=true) (hb:W.cell? b=some x) (hb1:W.cell? (b.add 1)=some y) (ht:W.cell? ta=some o1) (ht1:(W.setCell ta x).cell? (ta.add 1)=some o2) (hf:W.frozen? ta=false) (hf1:(W.setCell ta x).frozen? (ta.add 1)=false) :
  (ReflectliteValue.set #[.agg #[.pointer (some ⟨1,59,none⟩),.pointer (some ta),.int .u64 409],.agg #[.pointer (some ⟨1,59,none⟩),.pointer (some b),.int .u64 153]]).run Tryz.prog W
   = .ok (.tuple #[]) ((W.setCell ta x).setCell (ta.add 1) y):=by
 have e0:∀ a:Addr,a.add 0=a:=fun a=>rfl
 rw [rls]
 simp only [Sem.run_bind,parts65a,parts65,Result.andThen]
 simp [ReflectliteValue.flagAddr,loadVar,loadCells,loadCellsFrom,Tryz.isAgg59,Tryz.sizeOf59,e0,hb,hb1,Result.andThen,direct65,storeVar,Value.cells,storeCells]
 rw [Go.run_store Tryz.prog W ta _ _ hx]
 simp [ht,hf]
 rw [Go.run_store Tryz.prog _ _ _ _ hy]
 simp [ht1,hf1]
abbrev asW (w:World) (t:Addr) (x y:Value):World:=(((w.alloc (.cells #[.pointer (some t)] 64)).alloc (.cells #[.pointer (some ⟨1,64,none⟩),.pointer (some ⟨w.heap.size,0,none⟩),.int .u64 150] 101)).alloc (.cells #[.pointer (some ⟨1,64,none⟩),.pointer (some ⟨w.heap.size,0,none⟩),.int .u64 150] 101)).alloc (.cells #[x,y] 59)
theorem methodKind (h : Value) (w : World) : (Go.method 293 137 (.agg #[h]) "Kind").run Tryz.prog w = .ok (100, h) w := by kernel_rfl
theorem methodElem (h : Value) (w : World) : (Go.method 293 137 (.agg #[h]) "Elem").run Tryz.prog w = .ok (112, .agg #[h]) w := by kernel_rfl
theorem methodImplements (h : Value) (w : World) : (Go.method 293 137 (.agg #[h]) "Implements").run Tryz.prog w = .ok (113, .agg #[h]) w := by kernel_rfl
theorem methodAssignableTo (h : Value) (w : World) : (Go.method 293 137 (.agg #[h]) "AssignableTo").run Tryz.prog w = .ok (110, .agg #[h]) w := by kernel_rfl
set_option maxRecDepth 20000 in
set_option maxHeartbeats 4000000 in
theorem as_hit (x y:Value) (t:Addr) (o1 o2:Value) (w:World) (hx:x.oneCell'=true) (hy:y.oneCell'=true) (hg:w.cell? ⟨0,0,none⟩=some (.iface 137 (.agg #[.pointer (some ⟨1,62,none⟩)]))) (htl:t.block < w.heap.size)
  (ht:(asW w t x y).cell? t=some o1) (ht1:((asW w t x y).setCell t x).cell? (t.add 1)=some o2) (hf:(asW w t x y).frozen? t=false) (hf1:((asW w t x y).setCell t x).frozen? (t.add 1)=false) (ht0:w.cell? t=some o1) :
  Calls Tryz.prog 22 #[.iface 59 (.agg #[x,y]),.iface 64 (.pointer (some t))] w fun ev w'=>ev=.returned (.bool true)∧w'=((asW w t x y).setCell t x).setCell (t.add 1) y:=by
 have h48:=@run_callFunc_extern Tryz.prog 40 _ (fun args=>ReflectliteValue.unpack (args.getD 0 (.tuple #[]))) Tryz.func40 (by kernel_rfl) (by kernel_rfl) (by kernel_rfl) (by kernel_rfl)
 have h49 := @run_callFunc_extern Tryz.prog 41 _ (ReflectliteValue.methodAny (ReflectliteValue.valueError "reflectlite.Value.Type" 0) (fun t _ _ _ => ReflectliteType.toType t)) Tryz.func41 (by kernel_rfl) (by kernel_rfl) (by kernel_rfl) (by kernel_rfl)
 have h50 := @run_callFunc_extern Tryz.prog 42 _ (ReflectliteValue.method (ReflectliteValue.valueError "reflectlite.Value.IsNil" 0) ReflectliteValue.isNil) Tryz.func42 (by kernel_rfl) (by kernel_rfl) (by kernel_rfl) (by kernel_rfl)
 have h80:=@run_callFunc_extern Tryz.prog 100 _ (ReflectliteType.abiMethod fun t=>do pure (.int .u8 (←Rtype.kind t))) Tryz.func100 (by kernel_rfl) (by kernel_rfl) (by kernel_rfl) (by kernel_rfl)
 have h90:=@run_callFunc_extern Tryz.prog 112 _ (ReflectliteType.method ReflectliteType.elem) Tryz.func112 (by kernel_rfl) (by kernel_rfl) (by kernel_rfl) (by kernel_rfl)
 have h91 := @run_callFunc_extern Tryz.prog 113 _ (ReflectliteType.relation "Implements" ReflectliteType.implements_) Tryz.func113 (by kernel_rfl) (by kernel_rfl) (by kernel_rfl) (by kernel_rfl)
 have h59:=@run_callFunc_extern Tryz.prog 67 _ ReflectliteType.typeOf Tryz.func67 (by kernel_rfl) (by kernel_rfl) (by kernel_rfl) (by kernel_rfl)
 have h88 := @run_callFunc_extern Tryz.prog 110 _ (ReflectliteType.relation "AssignableTo" ReflectliteType.assignableTo) Tryz.func110 (by kernel_rfl) (by kernel_rfl) (by kernel_rfl) (by kernel_rfl)
 have h60 := @run_callFunc_extern Tryz.prog 68 _ (ReflectliteValue.method (ReflectliteValue.valueError "reflectlite.Value.Elem" 0) ReflectliteValue.elem) Tryz.func68 (by kernel_rfl) (by kernel_rfl) (by kernel_rfl) (by kernel_rfl)
 have h61:=@run_callFunc_extern Tryz.prog 69 _ ReflectliteValue.set Tryz.func69 (by kernel_rfl) (by kernel_rfl) (by kernel_rfl) (by kernel_rfl)
 have tO:=typeOf65
 have mA:=methodAssignableTo
 have a65:=assignable65
 have v65:=valueOf65
 have f6:=valueOf70
 have f7:=type70
 have mK:=methodKind
 have mE:=methodElem
 have mI:=methodImplements
 have k70:=kind70
 have k65:=kind65
 have e70:=elem70
 have i65:=implements65
 have n8:=isNil70 ⟨w.heap.size,0,none⟩ t ((w.alloc (.cells #[.pointer (some t)] 64)).alloc (.cells #[.pointer (some ⟨1,64,none⟩),.pointer (some ⟨w.heap.size,0,none⟩),.int .u64 150] 101)) (by simp)
 have hlt:0 < w.heap.size:=by omega
 have hg2:((w.alloc (.cells #[.pointer (some t)] 64)).alloc (.cells #[.pointer (some ⟨1,64,none⟩),.pointer (some ⟨w.heap.size,0,none⟩),.int .u64 150] 101)).cell? ⟨0,0,none⟩=some (.iface 137 (.agg #[.pointer (some ⟨1,62,none⟩)])):=by
  rw [World.cell?_alloc_lt _ _ ⟨0,0,none⟩ (by simp),World.cell?_alloc_lt _ _ ⟨0,0,none⟩ hlt];exact hg
 have el:=elemV70 ⟨w.heap.size,0,none⟩ t (((w.alloc (.cells #[.pointer (some t)] 64)).alloc (.cells #[.pointer (some ⟨1,64,none⟩),.pointer (some ⟨w.heap.size,0,none⟩),.int .u64 150] 101)).alloc (.cells #[.pointer (some ⟨1,64,none⟩),.pointer (some ⟨w.heap.size,0,none⟩),.int .u64 150] 101)) (by rw [World.cell?_alloc_lt _ _ ⟨w.heap.size,0,none⟩ (by simp;omega)];simp)
 have st:=set65 t ⟨w.heap.size+1+1+1,0,none⟩ x y o1 o2 (asW w t x y) hx hy
  (by rw [World.cell?_alloc_at _ _ _ _ (by simp)];rfl) (by show (asW w t x y).cell? ⟨w.heap.size+1+1+1,1,none⟩=_;rw [World.cell?_alloc_at _ _ _ _ (by simp)];rfl) ht ht1 hf hf1
 go_enter Tryz.func22,Tryz.ntmps22
 go_wp2
 refine wp_loop_rounds 1 ?_
 rw [rounds_succ]
 go_wp2
 go_ret
 exact ⟨rfl,rfl⟩
end Go.Proofs.YtjcmlflljibikaaGreatDoor.AsB
namespace Go.Proofs.YtjcmlflljibikaaGreatDoor.Cal
open Go
theorem two_set {w:World} {b:Nat} {o1 o2 x y:Value} {T:Nat} (h:w.heap[b]? = some (.cells #[o1,o2] T (0,0))) :
  w.frozen? ⟨b,0,none⟩=false∧w.cell? ⟨b,0,none⟩=some o1∧(w.setCell ⟨b,0,none⟩ x).heap[b]? = some (.cells #[x,o2] T (0,0))∧(w.setCell ⟨b,0,none⟩ x).cell? ⟨b,1,none⟩=some o2∧(w.setCell ⟨b,0,none⟩ x).frozen? ⟨b,1,none⟩=false ∧
   ((w.setCell ⟨b,0,none⟩ x).setCell ⟨b,1,none⟩ y).heap[b]? = some (.cells #[x,y] T (0,0)):=by
 have hlt:=lt_of_block h
 have hs:∀ {w:World} {cs:Array Value} {i:Nat} {v:Value},w.heap[b]? = some (.cells cs T (0,0))→(w.setCell ⟨b,i,none⟩ v).heap[b]? = some (.cells (cs.setIfInBounds i v) T (0,0)):=by
  intro w cs i v h
  have hlt:=lt_of_block h
  have h':w.heap[b]=.cells cs T (0,0):=by simpa [Array.getElem?_eq_getElem hlt] using h
  show (w.heap.modify b _)[b]? = _
  rw [Array.getElem?_eq_getElem (by simpa using hlt),Array.getElem_modify_self,h']
  rfl
 have h1:(w.setCell ⟨b,0,none⟩ x).heap[b]? = some (.cells #[x,o2] T (0,0)):=hs h
 refine ⟨?_,?_,h1,?_,?_,hs h1⟩
 ·simp [World.frozen?,h]
 ·simp [World.cell?,h]
 ·simp [World.cell?,h1]
 ·simp [World.frozen?,h1]
def glA : List Value→(Nat→Prop)→World→(Nat→Prop)→Prop:=fun ys Z w F=>(∀ y,¬ F y)∧Z 0∧w.cell? ⟨0,0,none⟩=some (.iface 137 (.agg #[.pointer (some ⟨1,62,none⟩)]))
def glB : Blk:=.sem [] glA
def ptA (t:Nat):List Value→(Nat→Prop)→World→(Nat→Prop)→Prop:=fun ys Z w F=>(∀ y,¬ F y)∧∃ v,ys=[.iface t v,v]
theorem Zhc {P:Program} {o:Oper} {t k:Nat} {x:Operand} {get:Operand→AV} (ho:o.op=.makeInterface t x) (hx:get x=.own k) (hrun:∀ (v:Value) (w:World),(Instr.makeInterface t v).run P w=.ok (.iface t v) w) (kn:Nat):OpSem P o get (.own kn) [] [(kn,some (.sem [kn,k] (ptA t)))] (some kn) :=
 Zhr (ks:=[k]) fun K Z ν w ev μ rs h1 hg hv hrd=>by
  obtain ⟨rx,mx⟩:=hv x (by rw [ho];simp [Op.operands])
  rw [hx] at rx mx
  have ek:=one1 rx
  refine ⟨.iface t (ev x),?_,rfl,fun j hj=>?_,fun Z' w' hZ hw=>⟨fun y hy=>hy,ν k,by rw [ek];rfl⟩⟩
  ·simp [execOp,ho,hrun,Sem.run_bind,Result.andThen,Sem.run]
  ·rw [List.mem_singleton.1 hj];exact mx
theorem Zou {vals:Array Value} {a b:Value} (h:vals.toList=[a,b]):vals = #[a,b]:=by
 cases vals
 simp_all
theorem as_nil_fg : FG Tryz.prog 22 [.cst .nilIface,.own 0] [] 1 fun g=>g=⟨1,.bool false,[]⟩:=by
 refine ⟨⟨Tryz.f22,by kernel_rfl,by kernel_rfl,by kernel_rfl⟩,?_⟩
 intro K Z ν w vals h1 hr hm hrs hzk hkl
 obtain ⟨v0,_,e0,r0,v1,_,rfl,r1,e2⟩:=hr
 obtain rfl:=one1 r0
 have e2:_=[]:=e2
 rw [e2] at e0
 rw [Zou e0]
 refine (AsB.as_nil v1 w).mono fun e w' ⟨he,hw⟩=>?_
 subst hw
 refine ⟨.bool false,Z,ν,.bool false,ltK 1,lkr [],he,Step.refl K Z w',h1,fun _ _=>rfl,fun k hk=>by show Nat.blt k 1=true;rw [Nat.blt_eq];exact hk,rfl,rfl,?_,fun b hb=>hkl b (hzk b hb),_,rfl,rfl,rfl,Nat.le_refl _,rfl⟩
 rw [Zbt hzk]
 exact hrs
theorem as_hit_fg {a b c d:AV} (ha:isC a=true∧isAg a=false∧men noK a=true) (hb:isC b=true∧isAg b=false∧men noK b=true) :
  FG Tryz.prog 22 [.own 0,.own 1] [(0,some (.sem [0] (ifA 59 (.agg (.cons a (.cons b .nil)))))),(1,some (.sem [1,2] (ptA 64))),(2,some (.box (.agg (.cons c (.cons d .nil))))),(3,some glB)] 4 fun g=>g=⟨4,.bool true,[(2,some (.box (.agg (.cons a (.cons b .nil))))),(3,some glB)]⟩:=by
 refine ⟨⟨Tryz.f22,by kernel_rfl,by kernel_rfl,by kernel_rfl⟩,?_⟩
 intro K Z ν w vals h1 hr hm ⟨Ft,hF⟩ hzk hkl
 obtain ⟨v0,_,e0,r0,v1,_,rfl,r1,e2⟩:=hr
 obtain rfl:=one1 r0
 obtain rfl:=one1 r1
 have e2:_=[]:=e2
 rw [e2] at e0
 rw [Zou e0]
 obtain ⟨a1,a2,a3,a4,a5⟩:=hF 0 _ rfl
 obtain ⟨b1,b2,b3,b4,b5⟩:=hF 1 _ rfl
 obtain ⟨c1,c2,⟨q,cells,T,c3,c4,c5,c6⟩,c7,c8⟩:=hF 2 _ rfl
 obtain ⟨d1,d2,d3,d4,d5⟩:=hF 3 _ rfl
 obtain ⟨_,v,hv,rv⟩:=a3 Z w (fun _ h=>h) (fun _ _=>rfl)
 obtain ⟨_,v',hv'⟩:=b3 Z w (fun _ h=>h) (fun _ _=>rfl)
 obtain ⟨_,hz0,hgl⟩:=d3 Z w (fun _ h=>h) (fun _ _=>rfl)
 simp only [List.map_cons,List.map_nil,List.cons.injEq,and_true] at hv hv'
 obtain ⟨e1,e3⟩:=hv'
 obtain ⟨es,ees,x,_,rfl,rx,y,_,rfl,ry,e4⟩:=rv
 have e4:_=[]:=e4
 subst e4
 have ev:v=.agg #[x,y]:=one1 ees
 have hx1:=(Zd8 (fun _=>rfl) ha.1 ha.2.1 rx).1
 have hy1:=(Zd8 (fun _=>rfl) hb.1 hb.2.1 ry).1
 obtain ⟨o1,_,ec,_,o2,_,rfl,_,e5⟩:=c5
 have e5:_=[]:=e5
 subst e5
 have hcells:cells = #[o1,o2]:=Zou ec
 subst hcells
 rw [hv,ev,e1,←e3,c3]
 have hqF:Ft 2 q:=(c6 q).2 rfl
 have hql:=(c7 q hqF).2
 have hasW:∀ k,k < w.heap.size→(AsB.asW w ⟨q,0,none⟩ x y).heap[k]? = w.heap[k]?:=fun k hk=>by
  unfold AsB.asW
  rw [Zbi _ (by simp;omega),Zbi _ (by simp;omega),Zbi _ (by simp;omega),Zbi _ hk]
 obtain ⟨t1,t2,t3,t4,t5,t6⟩:=two_set (w:=AsB.asW w ⟨q,0,none⟩ x y) (x:=x) (y:=y) ((hasW q hql).trans c4)
 have t2w:w.cell? ⟨q,0,none⟩=some o1:=by simp [World.cell?,c4]
 refine (AsB.as_hit x y ⟨q,0,none⟩ o1 o2 w hx1 hy1 hgl hql t2 t4 t1 t5 t2w).mono fun e w' ⟨he,hw⟩=>?_
 have hold:∀ k,k < w.heap.size→k≠q→w'.heap[k]? = w.heap[k]?:=fun k hk hne=>by
  rw [hw,RowKit.Below.heap_setCell _ _ _ _ hne,RowKit.Below.heap_setCell _ _ _ _ hne,hasW k hk]
 have hsz:w.heap.size≤w'.heap.size:=by rw [hw];simp [World.setCell];omega
 have hZq:∀ b,Z b→b≠q:=fun b hb e=>(c7 q hqF).1 (e▸hzk b hb)
 have hKq:∀ b,K b→b≠q:=fun b hb e=>(c7 q hqF).1 (e▸hb)
 have hzw:∀ b,Z b→w'.heap[b]? = w.heap[b]?:=fun b hb=>hold b (hkl b (hzk b hb)) (hZq b hb)
 refine ⟨.bool true,Z,ν,.bool true,ltK 4,lkr [(2,some (.box (.agg (.cons a (.cons b .nil))))),(3,some glB)],he,⟨⟨by rw [hw];rfl,by rw [hw];rfl,by rw [hw];rfl,hsz,fun b hb=>hold b (hkl b hb) (hKq b hb)⟩,fun _ h=>h,fun _ h=>.inl h⟩,h1,fun _ _=>rfl,fun k hk=>by show Nat.blt k 4=true;rw [Nat.blt_eq];exact hk,rfl,rfl,?_,fun b hb=>Nat.lt_of_lt_of_le (hkl b (hzk b hb)) hsz,_,rfl,rfl,rfl,Nat.le_refl _,rfl⟩
 rw [Zbt hzk]
 refine ⟨Ft,fun k B hk=>?_⟩
 rw [Zai] at hk
 have h23:(∀ k' b',k≠k'→lkr [(2,some (.box (.agg (.cons a (.cons b .nil))))),(3,some glB)] k'=some b'→k=2∨k=3→∀ x,Ft k x→¬ Ft k' x):=by
  intro k' b' hne hk' h23
  rw [Zai] at hk'
  by_cases e2:k'=2
  ·subst e2
   rcases h23 with rfl|rfl
   ·exact absurd rfl hne
   ·exact d5 2 _ (by decide) rfl
  ·rw [if_neg e2,Zai] at hk'
   by_cases e3:k'=3
   ·subst e3
    rcases h23 with rfl|rfl
    ·exact c8 3 _ (by decide) rfl
    ·exact absurd rfl hne
   ·rw [if_neg e3] at hk';cases hk'
 by_cases e2:k=2
 ·subst e2
  rw [if_pos rfl] at hk
  cases hk
  refine ⟨rfl,by show men _ _=true;simp only [men,Zce ha.2.2,Zce hb.2.2];rfl,⟨q,#[x,y],T,c3,by rw [hw];exact t6,?_,c6⟩,fun z hz=>⟨(c7 z hz).1,Nat.lt_of_lt_of_le (c7 z hz).2 hsz⟩,fun k' b' hne hk'=>h23 k' b' hne hk' (.inl rfl)⟩
  refine ⟨x,[y],rfl,Zdi ha.2.2 (Zbc (fun _ h=>h) hzw rx),y,[],rfl,Zdi hb.2.2 (Zbc (fun _ h=>h) hzw ry),rfl⟩
 ·rw [if_neg e2,Zai] at hk
  by_cases e3:k=3
  ·subst e3
   rw [if_pos rfl] at hk
   cases hk
   refine ⟨rfl,d2,Zbl (fun _ h=>h) hzw (fun z hz=>hold z (d4 z hz).2 fun e=>c8 3 _ (by decide) rfl q hqF (e▸hz)) d3,fun z hz=>⟨(d4 z hz).1,Nat.lt_of_lt_of_le (d4 z hz).2 hsz⟩,fun k' b' hne hk'=>h23 k' b' hne hk' (.inr rfl)⟩
  ·rw [if_neg e3] at hk;cases hk
open Go Pl
def chkQ (g:Gm) (w c s l:List Int) (e:Int):Prop:=(Zau g=false∧e=1∧s=[]∧l=[])∨(Zau g=true∧Zcy g w c=false∧e=4∧s=[]∧l=[]) ∨
 (Zau g=true∧Zcy g w c=true∧solB g w c=true∧e=0∧s=[]∧l=[])∨(Zau g=true∧Zcy g w c=true∧CpOK g w c s l∧e=8)
def rsA (s l:List Int) (e:Int):AV:=.tup (.cons (.agg (.cons (.roI s) (.cons (.roI l) .nil))) (.cons (.int .i64 e) .nil))
theorem mk70 (v:Value) (w:World):(Instr.makeInterface 64 v).run Tryz.prog w=.ok (.iface 64 v) w:=by kernel_rfl
noncomputable def spCkV : Nat→Option Spec
 |21=>some clmS
 |_=>none
theorem Zcj : SpOK Tryz.prog spCkV:=by
 intro f S h
 unfold spCkV at h
 split at h
 ·cases h;exact claimOf_ok
 ·cases h
theorem Zbv {ρ:Nat→Nat}:renB ρ glB=glB:=rfl
theorem Zbx {μ:Nat→Bool}:menB μ glB↔True:=⟨fun _=>trivial,fun _ k hk=>by cases hk⟩
theorem Zbw : notD glB=true:=rfl
theorem Ze4 {μ:Nat→Bool} {k:Nat} {A:List Value→(Nat→Prop)→World→(Nat→Prop)→Prop}:menB μ (.sem [k] A)↔μ k=true:=⟨fun h=>h k List.mem_cons_self,fun h j hj=>by rw [List.mem_singleton.1 hj];exact h⟩
theorem Ze3 {μ:Nat→Bool} {k k2:Nat} {A:List Value→(Nat→Prop)→World→(Nat→Prop)→Prop}:menB μ (.sem [k,k2] A)↔μ k=true∧μ k2=true:=⟨fun h=>⟨h k List.mem_cons_self,h k2 (by simp)⟩,fun h j hj=>by
 rcases List.mem_cons.1 hj with rfl|hj
 ·exact h.1
 ·rw [List.mem_singleton.1 hj];exact h.2⟩
theorem memAll1 : ∀ (k:Nat),k∈[0]→decide (k < 4)=true:=by decide
theorem memAll2 : ∀ (k:Nat),k∈[1,2]→decide (k < 4)=true:=by decide
def Zca := Hd.mk (And.intro @spCkV.eq_1<|And.intro @clmS.eq_1<|And.intro @Zbv<|And.intro @Zbx<|And.intro @Zbw<|And.intro @Ze4<|And.intro @Ze3<|And.intro @errU.eq_1<|And.intro @true_and<|@and_true)
set_option maxRecDepth 4000 in
set_option maxHeartbeats 4000000 in
theorem Zi9 {o p w c:List Int} {x:List (List Int)} :
  FG Tryz.prog 10 [.agg (.cons (.roI o) (.cons (.roI p) (.cons (.roII x) .nil))),.agg (.cons (.roI w) (.cons (.roI c) .nil))] [(0,some glB)] 1 fun g=>∃ s l e,chkQ ⟨o,p,x⟩ w c s l e∧g=⟨1,rsA s l e,[(0,some glB)]⟩:=by
 refine Zc5 htb (fn:=Tryz.f10) (by kernel_rfl) (by kernel_rfl) rfl (Nat.le_of_ble_eq_true rfl) fun hl=>?_
 simp only [lenP,mkL,lim] at hl
 have hor:=clm_or ⟨o,p,x⟩ w c
 have hz:∀ e,Imp (.tup (.cons (.agg (.cons (.cst (.slice none 0 0)) (.cons (.cst (.slice none 0 0)) .nil))) (.cons (.int .i64 e) .nil))) (rsA [] [] e):=fun e=>Zf3 (Zay (Zel (Zay Zbr (Zay Zbr (Zal rfl)))) (Zal rfl))
 repeat' first|exact gE|refine gS Zcj Zca [2] ?_|refine gO Zcj Zca [2] ?_ ?_|refine gC ?_ ?_<;>intro hb
 rcases hor with ⟨hv,hc,he⟩|⟨he,hv⟩|⟨he,hv,hc⟩
 ·rw [he]
  simp only [seI,seII,↓reduceIte]
  repeat' first|exact gE|refine gS Zcj Zca [4] ?_|refine gO Zcj Zca [4] ?_ ?_|refine gC ?_ ?_<;>intro hb
  ·cases hb
  clear hb
  repeat' first|exact gE|refine gS Zcj Zca [5] ?_|refine gO Zcj Zca [5] ?_ ?_|refine gC ?_ ?_<;>intro hb
  refine Zcf rfl ?_
  refine Zb6 (l1:=[_]) (l2:=[_,_,_]) ?_
  refine gTn Zcj Zca ?_ ?_
  ·first|exact oA|skip
  refine Zb6 (l1:=[_]) (l2:=[_,_]) ?_
  refine gCo ([]) (right_fg hv hc) Zca ?_;intro gm gv gr hq m' e' l' h
  rcases hq with ⟨hs,hq⟩|⟨s,l,u,hcp,hsy,hq⟩
  ·refine gCf hq h Zca ?_
   refine Zc7 (Zhc rfl rfl mk70 _) rfl rfl (fun c h=>by cases h) Zan (.inr rfl) rfl ?_
   dsimp only [putE,setW,reduceAdd]
   refine gCl ([18]) (as_nil_fg) Zca ?_
   repeat' first|exact gE|refine gS Zcj Zca [] ?_|refine gO Zcj Zca [] ?_ ?_|refine gC ?_ ?_<;>intro hb
   ·cases hb
   ·refine Zab rfl rfl (Zbe ⟨1,rsA [] [] 0,[(0,some glB)]⟩ [] ⟨[],[],0,.inr (.inr (.inl ⟨hv,hc,hs,rfl,rfl,rfl⟩)),rfl⟩ rfl (hz 0) ?_)
    simp only [grR,zE,evp,evx,ev1,evLoad,evStore,evBin,evIf,Zac,forall_const,z38,tb,reduceAdd,reduceSub,reduceMul,reduceEqDiff,reduceLeDiff,reduceLT,Nat.reduceBEq,Nat.reduceBNe,↓reduceIte,reduceIte,spCkV,clmS,Zbv,Zbx,Zbw,Ze4,Ze3,errU,true_and,and_true]
  ·rcases hsy with rfl|⟨rfl,rfl⟩
   ·refine gCf hq h Zca ?_
    refine Zc7 (Zhc rfl rfl mk70 _) rfl rfl (fun c h=>by cases h) Zan (.inr rfl) rfl ?_
    dsimp only [putE,setW,reduceAdd]
    refine Zim [18,19,16,0] (as_hit_fg (a:=.roI s) (b:=.roI l) (c:=.cst (.slice none 0 0)) (d:=.cst (.slice none 0 0)) ⟨rfl,rfl,rfl⟩ ⟨rfl,rfl,rfl⟩) rfl rfl rfl rfl rfl rfl rfl rfl rfl (by simp only [rinR,rhoC,zE,evp,evx,ev1,evLoad,evStore,evBin,evIf,Zac,forall_const,z38,tb,reduceAdd,reduceSub,reduceMul,reduceEqDiff,reduceLeDiff,reduceLT,Nat.reduceBEq,Nat.reduceBNe,↓reduceIte,reduceIte,spCkV,clmS,Zbv,Zbx,Zbw,Ze4,Ze3,errU,true_and,and_true];exact ⟨memAll1,memAll2⟩) ?_
    intro gm gv gr hq m' e' l' h
    refine gCf hq h Zca ?_
    repeat' first|exact gE|refine gS Zcj Zca [] ?_|refine gO Zcj Zca [] ?_ ?_|refine gC ?_ ?_<;>intro hb
    ·refine Zab rfl rfl (Zbe ⟨1,rsA (s) l 8,[(0,some glB)]⟩ [] ⟨s,l,8,.inr (.inr (.inr ⟨hv,hc,hcp,rfl⟩)),rfl⟩ rfl (Zal rfl) ?_)
     simp only [grR,zE,evp,evx,ev1,evLoad,evStore,evBin,evIf,Zac,forall_const,z38,tb,reduceAdd,reduceSub,reduceMul,reduceEqDiff,reduceLeDiff,reduceLT,Nat.reduceBEq,Nat.reduceBNe,↓reduceIte,reduceIte,spCkV,clmS,Zbv,Zbx,Zbw,Ze4,Ze3,errU,true_and,and_true]
    ·cases hb
   ·refine gCf hq h Zca ?_
    refine Zc7 (Zhc rfl rfl mk70 _) rfl rfl (fun c h=>by cases h) Zan (.inr rfl) rfl ?_
    dsimp only [putE,setW,reduceAdd]
    refine Zim [18,19,16,0] (as_hit_fg (a:=.cst (.slice none 0 0)) (b:=.roI l) (c:=.cst (.slice none 0 0)) (d:=.cst (.slice none 0 0)) ⟨rfl,rfl,rfl⟩ ⟨rfl,rfl,rfl⟩) rfl rfl rfl rfl rfl rfl rfl rfl rfl (by simp only [rinR,rhoC,zE,evp,evx,ev1,evLoad,evStore,evBin,evIf,Zac,forall_const,z38,tb,reduceAdd,reduceSub,reduceMul,reduceEqDiff,reduceLeDiff,reduceLT,Nat.reduceBEq,Nat.reduceBNe,↓reduceIte,reduceIte,spCkV,clmS,Zbv,Zbx,Zbw,Ze4,Ze3,errU,true_and,and_true];exact ⟨memAll1,memAll2⟩) ?_
    intro gm gv gr hq m' e' l' h
    refine gCf hq h Zca ?_
    repeat' first|exact gE|refine gS Zcj Zca [] ?_|refine gO Zcj Zca [] ?_ ?_|refine gC ?_ ?_<;>intro hb
    ·refine Zab rfl rfl (Zbe ⟨1,rsA ([]) l 8,[(0,some glB)]⟩ [] ⟨[],l,8,.inr (.inr (.inr ⟨hv,hc,hcp,rfl⟩)),rfl⟩ rfl (Zf3 (Zay (Zel (Zay Zbr (Zal rfl))) (Zal rfl))) ?_)
     simp only [grR,zE,evp,evx,ev1,evLoad,evStore,evBin,evIf,Zac,forall_const,z38,tb,reduceAdd,reduceSub,reduceMul,reduceEqDiff,reduceLeDiff,reduceLT,Nat.reduceBEq,Nat.reduceBNe,↓reduceIte,reduceIte,spCkV,clmS,Zbv,Zbx,Zbw,Ze4,Ze3,errU,true_and,and_true]
    ·cases hb
 ·rw [he]
  repeat' first|exact gE|refine gS Zcj Zca [] ?_|refine gO Zcj Zca [] ?_ ?_|refine gC ?_ ?_<;>intro hb
  ·refine Zab rfl rfl (Zbe ⟨1,rsA [] [] 1,[(0,some glB)]⟩ [] ⟨[],[],1,.inl ⟨hv,rfl,rfl,rfl⟩,rfl⟩ rfl (hz 1) ?_)
   simp only [grR,zE,evp,evx,ev1,evLoad,evStore,evBin,evIf,Zac,forall_const,z38,tb,reduceAdd,reduceSub,reduceMul,reduceEqDiff,reduceLeDiff,reduceLT,Nat.reduceBEq,Nat.reduceBNe,↓reduceIte,reduceIte,spCkV,clmS,Zbv,Zbx,Zbw,Ze4,Ze3,errU,true_and,and_true]
  ·cases hb
 ·rw [he]
  repeat' first|exact gE|refine gS Zcj Zca [] ?_|refine gO Zcj Zca [] ?_ ?_|refine gC ?_ ?_<;>intro hb
  ·refine Zab rfl rfl (Zbe ⟨1,rsA [] [] 4,[(0,some glB)]⟩ [] ⟨[],[],4,.inr (.inl ⟨hv,hc,rfl,rfl,rfl⟩),rfl⟩ rfl (hz 4) ?_)
   simp only [grR,zE,evp,evx,ev1,evLoad,evStore,evBin,evIf,Zac,forall_const,z38,tb,reduceAdd,reduceSub,reduceMul,reduceEqDiff,reduceLeDiff,reduceLT,Nat.reduceBEq,Nat.reduceBNe,↓reduceIte,reduceIte,spCkV,clmS,Zbv,Zbx,Zbw,Ze4,Ze3,errU,true_and,and_true]
  ·cases hb
open Go Go.ChangeShapes Go.WideShapes Go.ChangeAt Go.RowKit Go.Deep
def old (w:World):Nat→Prop:=fun b=>b < w.heap.size
def Znk {H:Type} (P:Program) (t:Nat) (d:DataW H):Prop:=∀ n,n∈d.weights P t→n≤140737488351232
section
variable {H:Type} {enc:TypeId × Value→H} {P:Program} {w:World} {base:Nat} {spare:Nat→Bool} {held:Bool}
theorem weights_all {e:TypeId} {d:DataW H}:∀ {l:List (DataW H)},d∈l→∀ n,n∈d.weights P e→n∈DataW.weightsAll P e l
 |[],h,_,_=>absurd h List.not_mem_nil
 |x :: l,h,n,hn=>by
  simp only [DataW.weightsAll,List.mem_append]
  rcases List.mem_cons.1 h with rfl|h
  ·exact .inl hn
  ·exact .inr (weights_all h n hn)
theorem cell_lt {a:Addr} {v:Value} (h:w.cell? a=some v):a.spot=none∧a.block < w.heap.size:=by
 unfold World.cell? at h
 cases hb:w.heap[a.block]? with
 |none=>rw [hb] at h;cases h
 |some o =>
  rw [hb] at h
  refine ⟨?_,(Array.getElem?_eq_some_iff.1 hb).1⟩
  cases o<;>first|(cases h;done)|skip
  dsimp only at h
  split at h
  ·cases h
  ·rename_i hs;simpa using hs
theorem rd_slice {α:Type} {t e fuel:Nat} {v:Value} {x:DataW H × List MemPlace} (d0:α) (G:α→List Value→Prop) (ht:P.underlying t=some (.slice e)) (hc:P.cellsOf e=1) (hB:8≤P.bytesOf e∨1≤P.bytesOf e)
  (hel:∀ n c y,DataW.trod enc P w base spare held n e [c]=some y→Znk P e y.1→∃ a,G a [c])
  (h:DataW.trod enc P w base spare held fuel t [v]=some x) (hl:Znk P t x.1):∃ l:List α,Zfp (old w) w 1 l.length (fun j es=>G (l.getD j d0) es) [v]:=by
 rcases open_slice1 ht hc h with ⟨hcs,_⟩|⟨a,len,cap,m,n,V,D,Pl,hcs,hba,hle,hcap,hm,hx,hel2⟩
 ·cases hcs
  exact ⟨[],none,0,rfl,Nat.le_refl _,Nat.zero_le _,fun h=>absurd h (Nat.lt_irrefl 0)⟩
 ·cases hcs
  subst hx
  have hlm:len≤m:=by rw [hm];split<;>omega
  have hex:∀ i,i < len→∃ a,G a [V i]:=fun i hi=>by
   obtain ⟨h1,h2⟩:=hel2 i (by omega)
   refine hel _ _ _ h2 fun k hk=>hl k ?_
   simp only [DataW.weights,ht,List.mem_cons,List.mem_append]
   exact .inr (.inl (weights_all (List.mem_map.2 ⟨i,List.mem_range.2 hi,rfl⟩) k hk))
  obtain ⟨F,hF⟩:∃ F:Nat→α,∀ i,i < len→G (F i) [V i]:=by
   refine ⟨fun i=>if h:i < len then Classical.choose (hex i h) else d0,fun i hi=>?_⟩
   simp only [dif_pos hi]
   exact Classical.choose_spec (hex i hi)
  refine ⟨(List.range len).map F,some a,cap,by simp,by simpa using hle,?_,fun hn=>?_⟩
  ·have:=hl ((((List.range len).map D).length+((List.range (m - len)).map fun j=>D (len+j)).length) * P.bytesOf e) (by simp only [DataW.weights,ht];exact List.mem_cons_self)
   simp only [List.length_map,List.length_range] at this ⊢
   have hb1:1≤P.bytesOf e:=by omega
   have h3:len≤(len+(m - len)) * P.bytesOf e:=Nat.le_trans (Nat.le_add_right _ _) (Nat.le_mul_of_pos_right _ hb1)
   unfold lim;omega
  ·simp only [List.length_map,List.length_range] at hn ⊢
   obtain ⟨h0,_⟩:=hel2 0 (by omega)
   obtain ⟨s1,s2⟩:=cell_lt h0
   obtain ⟨b,off,spot⟩:=a
   obtain rfl:spot=none:=by simpa [Addr.add] using s1
   refine ⟨b,off,rfl,by simpa [Addr.add,old] using s2,fun j hj=>⟨[V j],?_,rfl,fun i c hi=>?_⟩⟩
   ·have:((List.range len).map F).getD j d0=F j:=by simp [List.getD_eq_getElem?_getD,hj]
    rw [this];exact hF j hj
   ·cases i with
    |succ i=>simp at hi
    |zero =>
     simp only [List.getElem?_cons_zero,Option.some.injEq] at hi
     subst hi
     obtain ⟨h1,_⟩:=hel2 j (by omega)
     rw [←Go.WideShapes.add_plain,Nat.mul_one,Nat.add_zero];exact h1
theorem Zmi {t e fuel:Nat} {v:Value} {x:DataW H × List MemPlace} (ht:P.underlying t=some (.slice e)) (he:P.underlying e=some (.int .i64)) (hc:P.cellsOf e=1) (hB:1≤P.bytesOf e)
  (h:DataW.trod enc P w base spare held fuel t [v]=some x) (hl:Znk P t x.1) (ν:Nat→Value) (m:Bool):∃ l:List Int,R (old w) w (.roI l) ν m [v] :=
 rd_slice 0 (fun n es=>es=[.int .i64 n]) ht hc (.inr hB) (fun n c y hy _=>by
  obtain ⟨k,hk,_⟩:=DataW.trod_int he hy
  exact ⟨k,hk⟩) h hl
theorem rd_intss {t e e2 fuel:Nat} {v:Value} {x:DataW H × List MemPlace} (ht:P.underlying t=some (.slice e)) (hc:P.cellsOf e=1) (hB:1≤P.bytesOf e) (he:P.underlying e=some (.slice e2)) (he2:P.underlying e2=some (.int .i64)) (hc2:P.cellsOf e2=1) (hB2:1≤P.bytesOf e2)
  (h:DataW.trod enc P w base spare held fuel t [v]=some x) (hl:Znk P t x.1) (ν:Nat→Value) (m:Bool):∃ l:List (List Int),R (old w) w (.roII l) ν m [v] :=
 rd_slice [] (fun l es=>R (old w) w (.roI l) ν m es) ht hc (.inr hB) (fun n c y hy hl=>Zmi he he2 hc2 hB2 hy hl ν m) h hl
theorem rd_game {r:Reach} {b0 t:Nat} {f0 f1 f2:Field} {v:Value} {d:DataW H} {p:List MemPlace} (hs:P.underlying t=some (.struct #[f0,f1,f2])) (hone:oneCellFields P #[f0,f1,f2]=true) (hC:P.cellsOf t=3) (hv:Value.okWide P w r b0 t v) (h:DataW.Trod enc P w base spare held t v d p) (hl:Znk P t d)
  {e1 e2:Nat} (h0:P.underlying f0.type=some (.slice e1)) (h1:P.underlying f1.type=some (.slice e1)) (h2:P.underlying f2.type=some (.slice e2)) (he1:P.underlying e1=some (.int .i64)) (he2:P.underlying e2=some (.slice e1)) (hc1:P.cellsOf e1=1) (hc2:P.cellsOf e2=1) (hB1:1≤P.bytesOf e1) (hB2:1≤P.bytesOf e2) (ν:Nat→Value) :
  ∃ g:Gm,R (old w) w (gmA g) ν true [v]:=by
 obtain ⟨v0,v1,v2,y0,y1,y2,n,rfl,rfl,rfl,t0,t1,t2⟩:=Go.Joins.open_agg3 hs hone hC hv h
 have hw:∀ k,k∈y0.1.weights P f0.type∨k∈y1.1.weights P f1.type∨k∈y2.1.weights P f2.type→k≤140737488351232:=fun k hk=>hl k (by
  simp only [DataW.weights,hs,DataW.weightsEach,List.mem_append,List.map_cons,List.map_nil,List.not_mem_nil,or_false]
  exact hk)
 obtain ⟨o,ho⟩:=Zmi h0 he1 hc1 hB1 t0 (fun k hk=>hw k (.inl hk)) ν true
 obtain ⟨q,hq⟩:=Zmi h1 he1 hc1 hB1 t1 (fun k hk=>hw k (.inr (.inl hk))) ν true
 obtain ⟨x,hx⟩:=rd_intss h2 hc2 hB2 he2 he1 hc1 hB1 t2 (fun k hk=>hw k (.inr (.inr hk))) ν true
 exact ⟨⟨o,q,x⟩,[v0,v1,v2],rfl,v0,[v1,v2],rfl,ho,v1,[v2],rfl,hq,v2,[],rfl,hx,rfl⟩
theorem light_of {ts:List TypeId} {ds:List (DataW H)} (hsz:(DataW.weightsEach P ts ds).all (· ≤ reachBytes)=true) {j t:Nat} {d:DataW H} (ht:ts[j]? = some t) (hd:ds[j]? = some d):Znk P t d:=fun n hn=>by
 have:=List.all_eq_true.1 hsz _ (DataW.weights_mem_each ht hd n hn)
 exact of_decide_eq_true this
end
open Go
def exS : Spec
 |[]=>some ⟨True,.agg (.cons (.roI [0,1]) (.cons (.roI [1,2]) (.cons (.roII [[0,1],[0,1]]) .nil))),none⟩
 |_=>none
set_option maxRecDepth 4000 in
set_option maxHeartbeats 4000000 in
theorem ex_ok : Zcn Tryz.prog 11 exS:=by
 refine Zaw htb (fn:=Tryz.f11) (by kernel_rfl) (by kernel_rfl) rfl (fun args r hS=>?_) (fun args r hS hob hl=>?_)
 ·unfold exS at hS;split at hS<;>first|(cases hS;done)|(cases hS;exact Nat.le_of_ble_eq_true rfl)
 unfold exS at hS
 split at hS
 case h_2=>cases hS
 simp only [Option.some.injEq] at hS
 subst hS
 repeat' first|exact gE|refine gS noSp x0 [] ?_|refine gO noSp x0 [] ?_ ?_|refine gC ?_ ?_<;>intro hb
 refine Zab rfl rfl (Zae rfl ?_ rfl)
 rfl
open Go
section
variable {P:Program} {ro:Option Nat} {N κ:Nat} {tb:Nat→Option TI}
theorem call_frame {s:CS} {kk:List Nat} {rin:List (Nat × Option Blk)} {Q0:GR→Prop} {Q:Exit→St→Prop} {dst:Option Nat} (hd':∀ d,dst=some d→d < N) (hkk:kkOK s.m kk=true) (hκ:Nat.ble κ s.m=true)
  (hrin:∀ j B,lkr rin j=some B→j < kk.length∧menB (ltK kk.length) B∧lkr s.rs (rhoC kk s.m j)=some (renB (rhoC kk s.m) B))
  (next:∀ g,Q0 g→kk.length≤g.m→Q .normal (CS.st ⟨s.m+(g.m - kk.length),putE dst (ren (rhoC kk s.m) g.val) s.env,outR kk s.m g.rs s.rs,s.ms⟩))
  {K Z:Nat→Prop} {w:World} {ν:Nat→Value} {a:Act} (hg:Good K Z N w ν s.st a) :
  ∃ Kc:Nat→Prop,GoodRs Kc Z w (fun j=>ν (rhoC kk s.m j)) (ltK kk.length) (lkr rin)∧(∀ b,Z b→Kc b)∧(∀ b,Kc b→b < w.heap.size) ∧
   ∀ (y:Value) (w':World) (Z':Nat→Prop) (ν':Nat→Value) (g:GR),Step Kc Z w Z' w'→(∀ k,(ν' k).oneCell'=true)→(∀ k,k < kk.length→ν' k=ν (rhoC kk s.m k))→R Z' w' g.val ν' true [y]→men (ltK g.m) g.val=true →
    GoodRs (un Kc Z') Z' w' ν' (ltK g.m) (lkr g.rs)→(∀ b,Z' b→b < w'.heap.size)→Q0 g→kk.length≤g.m→Post N κ K Z w ν Q .normal (a.put dst y) w':=by
 obtain ⟨Ft,hF⟩:=id hg.rs
 have hF':∀ k B,lkr s.rs k=some B→k < s.m:=fun k B hk=>by
  have:=(hF k B hk).1
  rwa [show (s.st).mu k=Nat.blt k s.m from rfl,Nat.blt_eq] at this
 let ρ:=rhoC kk s.m
 have hρ:∀ i j,ρ i=ρ j→i=j:=fun i j h=>rhoC_inj hkk h
 let Kc:Nat→Prop:=fun b=>K b∨∃ k B,k ∉ kk∧lkr s.rs k=some B∧Ft k b
 have hKc:∀ b,Kc b→b < w.heap.size:=fun b hb=>hb.elim (hg.kl b) fun ⟨k,B,_,hk,hb⟩=>((hF k B hk).2.2.2.1 b hb).2
 refine ⟨Kc,
   ⟨fun j=>Ft (ρ j),fun j B hj=>by
    obtain ⟨r1,r2,r3⟩:=hrin j B hj
    obtain ⟨g1,g2,g3,g4,g5⟩:=hF _ _ r3
    refine ⟨by show Nat.blt j _=true;rw [Nat.blt_eq];exact r1,r2,sat_ren.1 g3,fun b hb=>⟨?_,(g4 b hb).2⟩,fun j' B' hne hj'=>?_⟩
    ·rintro (h|⟨k,B',hk,hkr,h⟩)
     ·exact (g4 b hb).1 h
     ·exact g5 k B' (fun e=>hk (e▸(Zfy r1 hkk).1)) hkr b hb h
    ·obtain ⟨q1,q2,q3⟩:=hrin j' B' hj'
     exact g5 _ _ (fun e=>hne (hρ _ _ e)) q3⟩,
  fun b hb=>.inl (hg.zk b hb),hKc,?_⟩
 intro y w' Z' ν' g hstep h1' hν hr' hm' ⟨Fn,hFn⟩ hzs hq hle
 let νn:Nat→Value:=fun k=>if k < s.m then ν k else ν' (k - s.m+kk.length)
 have hνρ:∀ j,j < g.m→νn (ρ j)=ν' j:=fun j hj=>by
  show (if ρ j < s.m then _ else _)=_
  rcases Nat.lt_or_ge j kk.length with h|h
  ·rw [if_pos (Zfy h hkk).2,hν j h]
  ·rw [show ρ j=s.m+(j - kk.length) from Zg9 h,if_neg (by omega)]
   congr 1;omega
 have hold:∀ b,Kc b→w'.heap[b]? = w.heap[b]?:=hstep.ext.block
 have hst:Step K Z w Z' w':=⟨⟨hstep.ext.os,hstep.ext.tape,hstep.ext.output,hstep.ext.size,fun b hb=>hold b (.inl hb)⟩,hstep.le,fun b hb=>(hstep.new b hb).imp id fun h hk=>h (.inl hk)⟩
 have hνold:∀ k,ltK s.m k=true→νn k=ν k:=fun k hk=>by
  rw [ltK,Nat.blt_eq] at hk
  exact if_pos hk
 have hR':R Z' w' (ren ρ g.val) νn true [y]:=R_ren.2 (R_nu (fun k hk=>hνρ k (by rw [ltK,Nat.blt_eq] at hk;exact hk)) hm' hr')
 have hgood:Good (un K Z') Z' N w' νn ⟨ltK (s.m+(g.m - kk.length)),lke s.env,lkr (outR kk s.m g.rs s.rs),s.ms⟩ a:=by
  have hwide:∀ k,ltK s.m k=true→ltK (s.m+(g.m - kk.length)) k=true:=fun k hk=>by
   simp only [ltK,Nat.blt_eq] at hk ⊢;omega
  refine ⟨hg.size,fun k=>?_,fun t=>⟨Zdt hwide (hg.env t).1,R_nu hνold (hg.env t).1 (Zbc hst.le (fun b hb=>hst.ext.block b (hg.zk b hb)) (hg.env t).2)⟩,?_,fun b hb=>.inr hb,fun b hb=>?_,?_,fun k hk=>hwide k (hg.ml k hk)⟩
  ·show (if k < s.m then _ else _:Value).oneCell'=true
   split
   ·exact hg.one k
   ·exact h1' _
  ·refine ⟨fun k b=>(∃ j B,ρ j=k∧lkr g.rs j=some B∧Fn j b)∨(k ∉ kk∧(∃ B,lkr s.rs k=some B)∧Ft k b),fun k B hk=>?_⟩
   have hcase:∀ {k B},lkr (outR kk s.m g.rs s.rs) k=some B→(∃ j B0,ρ j=k∧lkr g.rs j=some B0∧B=renB ρ B0)∨((∀ j B0,ρ j=k→lkr g.rs j≠some B0)∧k ∉ kk∧lkr s.rs k=some B):=by
    intro k B hk
    unfold lkr outR at hk
    rw [lko_app] at hk
    rcases Zk6 hρ (g:=g.rs) (k:=k) with ⟨j,e,x,h1,h2⟩|⟨h1,h2⟩
    ·rw [h2] at hk
     dsimp only at hk
     cases x with
     |none=>cases hk
     |some B0 =>
      simp only [Option.map_some,Option.some.injEq] at hk
      exact .inl ⟨j,B0,e,by unfold lkr;rw [h1],hk.symm⟩
    ·rw [h1] at hk
     dsimp only at hk
     obtain ⟨d1,d2⟩:=Ze6 (kk:=kk) (l:=s.rs) (k:=k) (B:=B) hk
     refine .inr ⟨fun j B0 e h=>?_,d1,d2⟩
     unfold lkr at h
     rw [h2 j e] at h;cases h
   have hnewF:∀ {j B0},lkr g.rs j=some B0→∀ b,((∃ j' B,ρ j'=ρ j∧lkr g.rs j'=some B∧Fn j' b)∨(ρ j ∉ kk∧(∃ B,lkr s.rs (ρ j)=some B)∧Ft (ρ j) b))↔Fn j b:=by
    intro j B0 hj b
    constructor
    ·rintro (⟨j',B,e,_,h⟩|⟨h1,⟨B,h2⟩,_⟩)
     ·rw [hρ _ _ e] at h;exact h
     ·exfalso
      rcases Nat.lt_or_ge j kk.length with h|h
      ·exact h1 (Zfy h hkk).1
      ·have:=hF' _ _ h2
       rw [show ρ j=s.m+(j - kk.length) from Zg9 h] at this
       omega
    ·exact fun h=>.inl ⟨j,B0,rfl,hj,h⟩
   have holdF:∀ {k B},(∀ j B0,ρ j=k→lkr g.rs j≠some B0)→k ∉ kk→lkr s.rs k=some B→∀ b,((∃ j' B,ρ j'=k∧lkr g.rs j'=some B∧Fn j' b)∨(k ∉ kk∧(∃ B,lkr s.rs k=some B)∧Ft k b))↔Ft k b:=by
    intro k B h1 h2 h3 b
    constructor
    ·rintro (⟨j',B,e,h,_⟩|⟨_,_,h⟩)
     ·exact absurd h (h1 j' B e)
     ·exact h
    ·exact fun h=>.inr ⟨h2,⟨B,h3⟩,h⟩
   rcases hcase hk with ⟨j,B0,rfl,hj,rfl⟩|⟨c1,c2,c3⟩
   ·obtain ⟨f1,f2,f3,f4,f5⟩:=hFn j B0 hj
    have hjm:j < g.m:=by rw [ltK,Nat.blt_eq] at f1;exact f1
    have hFe:=funext fun b=>propext (hnewF hj b)
    refine ⟨Zgt hkk hle j f1,menB_renK (Zgt hkk hle) f2,?_,fun b hb=>⟨?_,(f4 b ((hnewF hj b).1 hb)).2⟩,fun k' B' hne hk' b hb=>?_⟩
    ·dsimp only
     rw [hFe,hνρ j hjm]
     exact sat_ren.2 (Zet (fun k hk=>hνρ k (by rw [ltK,Nat.blt_eq] at hk;exact hk)) f2 f3)
    ·have:=(f4 b ((hnewF hj b).1 hb)).1
     rintro (h|h)
     ·exact this (.inl (.inl h))
     ·exact this (.inr h)
    ·have hb:=(hnewF hj b).1 hb
     rcases hcase hk' with ⟨j',B0',rfl,hj',rfl⟩|⟨c1,c2,c3⟩
     ·exact fun h=>f5 j' B0' (fun e=>hne (by rw [e])) hj' b hb ((hnewF hj' b).1 h)
     ·exact fun h=>(f4 b hb).1 (.inl (.inr ⟨k',B',c2,c3,(holdF c1 c2 c3 b).1 h⟩))
   ·obtain ⟨g1,g2,g3,g4,g5⟩:=hF k B c3
    have hFe:=funext fun b=>propext (holdF c1 c2 c3 b)
    have hnz:∀ b,Ft k b→¬ un K Z' b:=fun b hb=>by
     rintro (h|h)
     ·exact (g4 b hb).1 h
     ·rcases hstep.new b h with h2|h2
      ·exact (g4 b hb).1 (hg.zk b h2)
      ·exact h2 (.inr ⟨k,B,c2,c3,hb⟩)
    refine ⟨hwide k g1,Zdo hwide g2,?_,fun b hb=>⟨hnz b ((holdF c1 c2 c3 b).1 hb),Nat.lt_of_lt_of_le (g4 b ((holdF c1 c2 c3 b).1 hb)).2 hstep.ext.size⟩,fun k' B' hne hk' b hb=>?_⟩
    ·dsimp only
     rw [hFe,hνold k g1]
     exact Zet hνold g2 (Zbl hst.le (fun b hb=>hst.ext.block b (hg.zk b hb)) (fun b hb=>hold b (.inr ⟨k,B,c2,c3,hb⟩)) g3)
    ·have hb:=(holdF c1 c2 c3 b).1 hb
     rcases hcase hk' with ⟨j',B0',rfl,hj',rfl⟩|⟨d1,d2,d3⟩
     ·exact fun h=>((hFn j' B0' hj').2.2.2.1 b ((hnewF hj' b).1 h)).1 (.inl (.inr ⟨k,B,c2,c3,hb⟩))
     ·exact fun h=>g5 k' B' hne d3 b hb ((holdF d1 d2 d3 b).1 h)
  ·rcases hb with h|h
   ·exact Nat.lt_of_lt_of_le (hg.kl b h) hst.ext.size
   ·exact hzs b h
  ·rw [hg.ds]
   exact fmC fun k hk=>by rw [hνold k (hg.ml k hk)]
 refine ⟨Z',νn,_,hst,fun k hk=>hνold k (by rw [ltK,Nat.blt_eq];have:=Nat.le_of_ble_eq_true hκ;omega),?_,next g hq hle⟩
 have:=Good.setd hgood hd' hR' (Zi4 (Zgt hkk hle) hm')
 rw [show CS.st ⟨s.m+(g.m - kk.length),putE dst (ren (rhoC kk s.m) g.val) s.env,outR kk s.m g.rs s.rs,s.ms⟩=⟨ltK (s.m+(g.m - kk.length)),lke (putE dst (ren (rhoC kk s.m) g.val) s.env),lkr (outR kk s.m g.rs s.rs),s.ms⟩ from rfl,Zho]
 exact this
def Zoe (P:Program) (args:List AV) (rin:List (Nat × Option Blk)) (κ:Nat) (Q:GR→Prop):Prop :=
 ∀ (n:Nat) (K Z:Nat→Prop) (ν:Nat→Value) (w:World) (vals:Array Value) (l:Nat),(∀ k,(ν k).oneCell'=true)→R Z w (mkL args) ν true vals.toList→GoodRs K Z w ν (ltK κ) (lkr rin)→(∀ b,Z b→K b)→(∀ b,K b→b < w.heap.size)→ν 0=.map (some l) →
  ∃ (f:FuncId) (tmps:Array Value) (assign body:Code),(Instr.yield l vals).run P w=.ok (.round l f tmps assign body) w∧RoundIn (FF none) n P l f tmps assign body w fun e w'=>∃ (y:Value) (Z':Nat→Prop) (ν':Nat→Value) (g:GR),
   e=.returned y∧Step K Z w Z' w'∧(∀ k,(ν' k).oneCell'=true)∧(∀ k,k < κ→ν' k=ν k)∧R Z' w' g.val ν' true [y]∧men (ltK g.m) g.val=true∧GoodRs (un K Z') Z' w' ν' (ltK g.m) (lkr g.rs)∧(∀ b,Z' b→b < w'.heap.size)∧Q g∧κ≤g.m
theorem awpL_yield {o:Oper} {x:Operand} {xs:List Operand} {ts:Array TypeId} {ky m:Nat} {env:List (Nat × AV)} {l:List (Nat × Option Blk)} {ms:List Nat} (kk:List Nat) {args:List AV} {rin:List (Nat × Option Blk)} {Q0:GR→Prop} {Q:Exit→St→Prop}
  (hS:Zoe P args rin kk.length Q0)
  (ho:o.op=.call ⟨.value x,xs.toArray,ts⟩) (hgd:o.guard.isNone=true) (hd:Zdq N [o]=true) (hf:opv (lke env) x=.yld ky) (hky:rhoC kk m 0=ky)
  (hargs:ofL (opv (lke env)) xs=ren (rhoC kk m) (mkL args)) (hkk:kkOK m kk=true) (hκ:Nat.ble κ m=true)
  (hrin:rinR kk m l rin)
  (next:∀ gm gv gr,Q0 ⟨gm,gv,gr⟩→∀ m' e' l',(m+(gm - kk.length)=m'∧putE o.dst (ren (rhoC kk m) gv) env=e'∧outR kk m gr l=l')→Q .normal (CS.st ⟨m',e',l',ms⟩)):awpL P ro N κ [o] (CS.st ⟨m,env,l,ms⟩) Q:=by
 intro n K Z ν w a hg
 have hw:Region.wanted o (yielded #[] a.tmps)=true:=Za8 hgd _
 simp only [wpListIn,hw,if_true]
 have hev:∀ y:Operand,R Z w (opv (lke env) y) ν true [a.eval y]∧men (ltK m) (opv (lke env) y)=true:=fun y=>⟨Zih hg y,Zhb hg y⟩
 have rf:=(hev x).1
 rw [hf] at rf
 obtain ⟨lp,hlp,ecv⟩:=rf
 have ecv:=one1 ecv
 have hargs2:R Z w (ofL (opv (lke env)) xs) ν true (xs.map a.eval)∧men (ltK m) (ofL (opv (lke env)) xs)=true:=Zl1 xs fun y _=>hev y
 have hall:=hargs2.1
 rw [hargs] at hall
 have hall:=R_ren.1 hall
 have hd':∀ d,o.dst=some d→d < N:=fun d hd2=>by
  simp [Zdq,hd2] at hd;exact hd
 obtain ⟨Kc,h1,h2,h3,h4⟩:=call_frame (s:=⟨m,env,l,ms⟩) (kk:=kk) (Q:=Q) hd' hkk hκ (fun j B hj=>by
  obtain ⟨h1,h2,h3⟩:=Zhn hrin (Zdu hj).2
  rw [Nat.blt_eq] at h1
  exact ⟨h1,h2,h3⟩) (fun g hg hle=>next g.m g.val g.rs hg _ _ _ ⟨rfl,rfl,rfl⟩) hg
 obtain ⟨f,tmps,assign,body,hrun,hround⟩:=hS (n - 1) Kc Z (fun j=>ν (rhoC kk m j)) w (xs.map a.eval).toArray lp (fun j=>hg.one _) (by exact hall) h1 h2 h3 (by show ν (rhoC kk m 0)=_;rw [hky];exact hlp)
 have hsem:(o.semAt (FF ro).round a.eval).run P w=.ok (.round lp f tmps assign body) w:=by
  rw [Zbq (by rw [ho];intro c hc;cases hc)]
  simp [execOp,ho,resolve,ecv,Deferred.ofValue,invoke,hrun,Sem.run_bind,Result.andThen,Sem.run]
 refine ⟨fun f hf=>trivial,?_⟩
 rw [hsem]
 refine ⟨(fun h=>by cases h),RoundIn.mono hround ?_⟩
 rintro e w' ⟨y,Z',ν',g,rfl,c1,c2,c3,c4,c5,c6,c7,c8,c9⟩
 exact h4 y w' Z' ν' g c1 c2 c3 c4 c5 c6 c7 c8 c9
end
open Go
abbrev SemA := List Value→(Nat→Prop)→World→(Nat→Prop)→Prop
def ASem (w:World) (Z:Nat→Prop) (ν:Nat→Value) (m lp D:Nat) (rc:Loop) (vq:Value) (S:List (Nat × Option Blk)):SemA:=fun vs Zs ws F =>
 vs=[.map (some lp),vq]∧(∀ y,Z y→Zs y∧ws.heap[y]? = w.heap[y]?)∧F lp∧F D∧ws.heap[lp]? = some (.loop rc)∧ws.heap[D]? = some (.deferred (some [])) ∧
  ∃ (ν':Nat→Value) (G:Nat→Nat→Prop),(∀ k,(ν' k).oneCell'=true)∧(∀ k,k < m→ν' k=ν k)∧∀ k b,lkr S k=some b→sat Zs ws ν' (ν' k) (G k) b∧(∀ x,G k x→F x∧x≠lp∧x≠D)∧∀ k' b',k≠k'→lkr S k'=some b'→∀ x,G k x→¬ G k' x
section
variable {w:World} {Z:Nat→Prop} {ν:Nat→Value} {m lp D:Nat} {rc:Loop} {vq:Value} {S:List (Nat × Option Blk)}
theorem ASem_mono {vs:List Value} {Zs Z':Nat→Prop} {ws w':World} {F:Nat→Prop} (h:ASem w Z ν m lp D rc vq S vs Zs ws F) (hZ:∀ y,Zs y→Z' y) (hw:∀ y,Zs y∨F y→w'.heap[y]? = ws.heap[y]?):ASem w Z ν m lp D rc vq S vs Z' w' F:=by
 obtain ⟨h1,h2,h3,h4,h5,h6,ν',G,h7,h8,h9⟩:=h
 refine ⟨h1,fun y hy=>⟨hZ y (h2 y hy).1,(hw y (.inl (h2 y hy).1)).trans (h2 y hy).2⟩,h3,h4,(hw lp (.inr h3)).trans h5,(hw D (.inr h4)).trans h6,ν',G,h7,h8,fun k b hk=>?_⟩
 obtain ⟨g1,g2,g3⟩:=h9 k b hk
 exact ⟨Zbl hZ (fun y hy=>hw y (.inl hy)) (fun y hy=>hw y (.inr (g2 y hy).1)) g1,g2,g3⟩
theorem sat_ASem {νc:Nat→Value} {a b:Nat} {Zs:Nat→Prop} {ws:World} {F:Nat→Prop} {x:Value} (h:ASem w Z ν m lp D rc vq S [νc a,νc b] Zs ws F):sat Zs ws νc x F (.sem [a,b] (ASem w Z ν m lp D rc vq S)) :=
 fun Z' w' h1 h2=>ASem_mono h h1 h2
theorem ASem_of {νc:Nat→Value} {a b:Nat} {Zs:Nat→Prop} {ws:World} {F:Nat→Prop} {x:Value} (h:sat Zs ws νc x F (.sem [a,b] (ASem w Z ν m lp D rc vq S))):ASem w Z ν m lp D rc vq S [νc a,νc b] Zs ws F :=
 h Zs ws (fun _ h=>h) (fun _ _=>rfl)
end
section
variable {P:Program} {ro:Option Nat} {N κ:Nat} {tb:Nat→Option TI}
theorem Good.put {K Z:Nat→Prop} {w:World} {ν:Nat→Value} {σ:St} {a:Act} {r:Nat} {o:Obj} (hg:Good K Z N w ν σ a) (hK:K r) (hZ:¬ Z r):Good K Z N (w.putObj r o) ν σ a:=by
 have hz:∀ b,Z b→(w.putObj r o).heap[b]? = w.heap[b]?:=fun b hb=>World.putObj_heap_other (fun e=>hZ (e▸hb))
 refine ⟨hg.size,hg.one,fun s=>⟨(hg.env s).1,Zbc (fun _ h=>h) hz (hg.env s).2⟩,?_,hg.zk,fun b hb=>by rw [World.putObj_size];exact hg.kl b hb,hg.ds,hg.ml⟩
 exact hg.rs.mono (fun _ h=>h) hz (by rw [World.putObj_size];exact Nat.le_refl _) (fun _ h=>.inl h) (fun b hb _=>World.putObj_heap_other (fun e=>hb (e▸hK)))
def Zcr (kq M:Nat) (q:List Int) (S:List (Nat × Option Blk)):List (Nat × Option Blk):=(kq,some (.box (.own M))) :: (M,some (.ints q)) :: S
theorem Zd9 (w:World) (o:Obj) (k:Nat) (h:k < w.heap.size):(w.alloc o).heap[k]? = w.heap[k]?:=by
 show (w.heap.push o)[k]? = _
 rw [Array.getElem?_push,if_neg (by omega)]
theorem cases4 {k:Nat} {b b1 b2 b3 b4:Blk} (hk:lkr [(1,some b1),(2,some b2),(3,some b3),(4,some b4)] k=some b):(k=1∧b=b1)∨(k=2∧b=b2)∨(k=3∧b=b3)∨(k=4∧b=b4):=by
 rw [Zai] at hk
 by_cases h1:k=1
 ·rw [if_pos h1] at hk;exact .inl ⟨h1,(Option.some.inj hk).symm⟩
 ·rw [if_neg h1,Zai] at hk
  by_cases h2:k=2
  ·rw [if_pos h2] at hk;exact .inr (.inl ⟨h2,(Option.some.inj hk).symm⟩)
  ·rw [if_neg h2,Zai] at hk
   by_cases h3:k=3
   ·rw [if_pos h3] at hk;exact .inr (.inr (.inl ⟨h3,(Option.some.inj hk).symm⟩))
   ·rw [if_neg h3,Zai] at hk
    by_cases h4:k=4
    ·rw [if_pos h4] at hk;exact .inr (.inr (.inr ⟨h4,(Option.some.inj hk).symm⟩))
    ·rw [if_neg h4] at hk;cases hk
theorem Zk4 {m:Nat}:∀ {env:List (Nat × AV)},menE m env=true→∀ s,men (ltK m) (lke env s)=true
 |[],_,_=>rfl
 |(k,v) :: t,h,s=>by
  simp only [menE,Bool.and_eq_true] at h
  rw [Ze7]
  split
  ·exact h.1
  ·exact Zk4 h.2 s
end
def sOK (M kq kb:Nat):List (Nat × Option Blk)→Prop
 |[]=>True
 |(k,some B) :: t=>(k < M∧k≠kq∧k≠kb∧menB (ltK M) B)∧sOK M kq kb t
 |(_,none) :: t=>sOK M kq kb t
theorem Zmf {M kq kb k:Nat} {B:Blk}:∀ {l:List (Nat × Option Blk)},sOK M kq kb l→(k,some B)∈l→k < M∧k≠kq∧k≠kb∧menB (ltK M) B
 |[],_,h=>absurd h List.not_mem_nil
 |(j,none) :: t,hg,h=>by
  rcases List.mem_cons.1 h with e|h
  ·cases e
  ·exact Zmf (l:=t) hg h
 |(j,some B') :: t,hg,h=>by
  rcases List.mem_cons.1 h with e|h
  ·cases e;exact hg.1
  ·exact Zmf (l:=t) hg.2 h
end Go.Proofs.YtjcmlflljibikaaGreatDoor.Cal
