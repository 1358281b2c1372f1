/- Own texts of the proof, merged, in order. -/
import Derived.RecoverIn
import Derived.RangeFuncLeaves
import Derived.Test.YtlckljphakkomaaS19
set_option linter.unusedVariables false
set_option linter.unusedSimpArgs false
namespace Go.Proofs.Ytlckljphakkomaa.Cal
open Go Pl
set_option maxRecDepth 4000 in
set_option maxHeartbeats 4000000 in
theorem solve_fp {o p : List Int} {x : List (List Int)} (hV : Valid ⟨o, p, x⟩) {s : ZS} (hs : ZI ⟨o, p, x⟩ s) :
    FP Try.prog 38 [.own 0, .roB s.K] [(0, some (.box (svA o p x (backL x) s.left 1 2))), (1, some (.ints s.W)), (2, some (.ints s.C))] 3 (fun c => c = refusedV ∧ ZP ⟨o, p, x⟩ s.K s.W s.C s.left)
      fun g => ∃ W' C' l', ZR ⟨o, p, x⟩ s.K s.W s.C s.left W' C' l' ∧ g = ⟨3, resV [], [(0, some (.box (svA o p x (backL x) l' 1 2))), (1, some (.ints W')), (2, some (.ints C'))]⟩ := by
  refine fp_of htb (fn := Try.f38) (by kernel_rfl) (by kernel_rfl) rfl (Nat.le_of_ble_eq_true rfl) fun hl => ?_
  simp only [lenP, mkL, lim] at hl
  repeat' first
    | with_reducible first | refine awp_seq ?_ | refine awp_block ?_ | refine next_then ?_ | refine next_block ?_ | refine exit_then ?_ | refine ret_then ?_ | refine ret_block ?_ | refine exit_here ?_ | refine awp_exit ?_ | refine awp_ret ?_ | refine awp_skip ?_ | refine awp_label ?_ | refine next_noGoto ?_ | refine ret_noGoto ?_ | refine exit_noGoto ?_ | refine awp_scope ?_
    | ((with_reducible refine exit_past ?_ ?_); exact rfl)
    | ((with_reducible refine isCond ?_); refine awp_condO rfl ?_ ?_ <;> intro hb <;> (try simp only [zH] at hb))
    | ((with_reducible refine isRegS 3 ?_ ?_); (· exact rfl); (first | refine awp_textM htb hmz noSp (fun _ => false) rfl rfl ?_ | refine awp_drawM hmo htb hmz noSp (fun _ => false) rfl rfl (by kernel_rfl) ?_); intro m' e' l' ob h; simp only [zE0, zE1, zE2, zE3, zE4, zE5, evp, evx, ev1, evLoad, evStore, evBin, isBoolK, forall_const, z38, tb, Nat.reduceAdd, Nat.reduceSub, Nat.reduceMul, Nat.reduceEqDiff, Nat.reduceLeDiff, Nat.reduceLT, Nat.reduceBEq, Nat.reduceBNe, ↓reduceIte, reduceIte, svA] at h; obtain ⟨rfl, rfl, rfl, rfl⟩ := h; refine ⟨?_, ?_⟩)
    | ((with_reducible refine Ob.mk ?_); first | exact trivial | (intros; omega) | ((repeat' first | apply And.intro | (intro hg; have hg' := hg; try simp only [zH] at hg')) <;> first | (with_reducible exact True.intro) | assumption | omega | (simp only [zH]; omega)))
  refine awp_cut ([_, _]) ([]) rfl rfl ?_
  refine awpL_text htb hmz noSp (fun _ => false) rfl rfl rfl ?_; intro m' e' l' ob h; simp only [zE0, zE1, zE2, zE3, zE4, zE5, evp, evx, ev1, evLoad, evStore, evBin, isBoolK, forall_const, z38, tb, Nat.reduceAdd, Nat.reduceSub, Nat.reduceMul, Nat.reduceEqDiff, Nat.reduceLeDiff, Nat.reduceLT, Nat.reduceBEq, Nat.reduceBNe, ↓reduceIte, reduceIte, svA] at h; obtain ⟨rfl, rfl, rfl, rfl⟩ := h; refine ⟨?_, next_then ?_⟩
  · first | ((with_reducible refine Ob.mk ?_); first | exact trivial | (intros; omega) | ((repeat' first | apply And.intro | (intro hg; have hg' := hg; try simp only [zH] at hg')) <;> first | (with_reducible exact True.intro) | assumption | omega | (simp only [zH]; omega))) | skip
  refine awpL_callP ([0, 1, 2, 3, 4]) (within_fp hV (cntZ o.length (fun v => s.K.getD v false) + 1) s hs (Nat.lt_succ_self _)) rfl rfl rfl rfl rfl rfl rfl rfl rfl (by simp only [rinR, rhoC, zE0, zE1, zE2, zE3, zE4, zE5, evp, evx, ev1, evLoad, evStore, evBin, isBoolK, forall_const, z38, tb, Nat.reduceAdd, Nat.reduceSub, Nat.reduceMul, Nat.reduceEqDiff, Nat.reduceLeDiff, Nat.reduceLT, Nat.reduceBEq, Nat.reduceBNe, ↓reduceIte, reduceIte, svA]) ?_ ?pan1; intro gm gv gr hq m' e' l' h; obtain ⟨W', C', l', hZ, hq⟩ := hq; simp only [GR.mk.injEq] at hq; obtain ⟨rfl, rfl, rfl⟩ := hq; simp only [rhoC, outR, renR, dels, zE0, zE1, zE2, zE3, zE4, zE5, evp, evx, ev1, evLoad, evStore, evBin, isBoolK, forall_const, z38, tb, Nat.reduceAdd, Nat.reduceSub, Nat.reduceMul, Nat.reduceEqDiff, Nat.reduceLeDiff, Nat.reduceLT, Nat.reduceBEq, Nat.reduceBNe, ↓reduceIte, reduceIte, svA] at h; obtain ⟨rfl, rfl, rfl⟩ := h; refine next_then ?_
  case pan1 =>
    rintro c hc
    repeat' first | with_reducible refine pan_then ?_ | with_reducible refine pan_block ?_ | with_reducible refine pan_noGoto ?_
    exact panP hc (fun k hk => by cases hk) List.nodup_nil
  refine awpL_text htb hmz noSp (fun _ => false) rfl rfl rfl ?_; intro m' e' l' ob h; simp only [zE0, zE1, zE2, zE3, zE4, zE5, evp, evx, ev1, evLoad, evStore, evBin, isBoolK, forall_const, z38, tb, Nat.reduceAdd, Nat.reduceSub, Nat.reduceMul, Nat.reduceEqDiff, Nat.reduceLeDiff, Nat.reduceLT, Nat.reduceBEq, Nat.reduceBNe, ↓reduceIte, reduceIte, svA] at h; obtain ⟨rfl, rfl, rfl, rfl⟩ := h; refine ⟨?_, ?_⟩
  · first | ((with_reducible refine Ob.mk ?_); first | exact trivial | (intros; omega) | ((repeat' first | apply And.intro | (intro hg; have hg' := hg; try simp only [zH] at hg')) <;> first | (with_reducible exact True.intro) | assumption | omega | (simp only [zH]; omega))) | skip
  repeat' first
    | with_reducible first | refine awp_seq ?_ | refine awp_block ?_ | refine next_then ?_ | refine next_block ?_ | refine exit_then ?_ | refine ret_then ?_ | refine ret_block ?_ | refine exit_here ?_ | refine awp_exit ?_ | refine awp_ret ?_ | refine awp_skip ?_ | refine awp_label ?_ | refine next_noGoto ?_ | refine ret_noGoto ?_ | refine exit_noGoto ?_ | refine awp_scope ?_
    | ((with_reducible refine exit_past ?_ ?_); exact rfl)
    | ((with_reducible refine isCond ?_); refine awp_condO rfl ?_ ?_ <;> intro hb <;> (try simp only [zH] at hb))
    | ((with_reducible refine isReg ?_); (first | refine awp_textM htb hmz noSp (fun _ => false) rfl rfl ?_ | refine awp_drawM hmo htb hmz noSp (fun _ => false) rfl rfl (by kernel_rfl) ?_); intro m' e' l' ob h; simp only [zE0, zE1, zE2, zE3, zE4, zE5, evp, evx, ev1, evLoad, evStore, evBin, isBoolK, forall_const, z38, tb, Nat.reduceAdd, Nat.reduceSub, Nat.reduceMul, Nat.reduceEqDiff, Nat.reduceLeDiff, Nat.reduceLT, Nat.reduceBEq, Nat.reduceBNe, ↓reduceIte, reduceIte, svA] at h; obtain ⟨rfl, rfl, rfl, rfl⟩ := h; refine ⟨?_, ?_⟩)
    | ((with_reducible refine Ob.mk ?_); first | exact trivial | (intros; omega) | ((repeat' first | apply And.intro | (intro hg; have hg' := hg; try simp only [zH] at hg')) <;> first | assumption | omega | (simp only [zH]; omega)))
  refine normalP ?_
  refine fin_normal rfl rfl (gq_of ⟨3, resV [], [(0, some (.box (svA o p x (backL x) l' 1 2))), (1, some (.ints W')), (2, some (.ints C'))]⟩ [] ⟨W', C', l', hZ, rfl⟩ rfl (imp_eq rfl) ?_)
  simp only [grR, zE0, zE1, zE2, zE3, zE4, zE5, evp, evx, ev1, evLoad, evStore, evBin, isBoolK, forall_const, z38, tb, Nat.reduceAdd, Nat.reduceSub, Nat.reduceMul, Nat.reduceEqDiff, Nat.reduceLeDiff, Nat.reduceLT, Nat.reduceBEq, Nat.reduceBNe, ↓reduceIte, reduceIte, svA]
end Go.Proofs.Ytlckljphakkomaa.Cal
namespace Go.Proofs.Ytlckljphakkomaa.Cal
open Go
/-- What stands for a deferred function that captures two variables. -/
def dfA (f : Nat) (vs : List Value) (Z : Nat → Prop) (w : World) (F : Nat → Prop) : Prop := ∃ y z, vs = [.func (.func f) #[] #[y, z], y, z]
section
variable {P : Program} {ro : Option Nat} {N κ : Nat} {tb : Nat → Option TI}
theorem Good.key {K Z : Nat → Prop} {w : World} {ν : Nat → Value} {m : Nat} {env : List (Nat × AV)} {l : List (Nat × Option Blk)} {a : Act} {v : Value} {b : Option Blk} {ds : List Deferred} (hg : Good K Z N w ν (CS.st ⟨m, env, l, []⟩) a) (hv : v.oneCell' = true)
    (hb : ∀ B, b = some B → menB (ltK (m + 1)) B ∧ ∀ ν' : Nat → Value, ν' m = v → (∀ k, k < m → ν' k = ν k) → sat Z w ν' v (fun _ => False) B) (hd : markOf v = ds) :
    Good K Z N w (fun k => if k = m then v else ν k) (CS.st ⟨m + 1, env, (m, b) :: l, [m]⟩) { a with defers := ds } := by
  have hwide : ∀ k, ltK m k = true → ltK (m + 1) k = true := fun k hk => by simp only [ltK, Nat.blt_eq] at hk ⊢; omega
  have hν : ∀ k, ltK m k = true → (fun k => if k = m then v else ν k) k = ν k := fun k hk => by
    simp only [ltK, Nat.blt_eq] at hk
    exact if_neg (by omega)
  refine ⟨hg.size, fun k => ?_, fun s => ⟨men_le hwide (hg.env s).1, R_nu hν (hg.env s).1 (hg.env s).2⟩, ?_, hg.zk, hg.kl, ?_, fun k hk => ?_⟩
  · show (if k = m then v else ν k : Value).oneCell' = true
    split
    · exact hv
    · exact hg.one k
  · obtain ⟨Ft, hF⟩ := hg.rs
    have hlt : ∀ k B, lkr l k = some B → k < m := fun k B hk => by
      have h := (hF k B hk).1
      have h : ltK m k = true := h
      simpa only [ltK, Nat.blt_eq] using h
    have hl : ∀ k, lkr ((m, b) :: l) k = if k = m then b else lkr l k := fun k => by
      unfold lkr
      simp only [lko]
      by_cases e : k = m
      · subst e; rw [Nat.beq_refl, if_pos rfl]
      · rw [beqN e, if_neg e]
    refine ⟨fun k x => k ≠ m ∧ Ft k x, fun k B hk => ?_⟩
    show ltK (m + 1) k = true ∧ _
    have hk : lkr ((m, b) :: l) k = some B := hk
    rw [hl] at hk
    by_cases e : k = m
    · subst e
      rw [if_pos rfl] at hk
      obtain ⟨b1, b2⟩ := hb B hk
      have hFe : (fun x => k ≠ k ∧ Ft k x) = fun _ => False := funext fun x => propext ⟨fun h => h.1 rfl, False.elim⟩
      refine ⟨by simp only [ltK, Nat.blt_eq]; omega, b1, ?_, fun x hx => absurd rfl hx.1, fun k' B' hne hk' x hx => absurd rfl hx.1⟩
      dsimp only
      rw [hFe, if_pos rfl]
      exact b2 _ (if_pos rfl) fun j hj => if_neg (by omega)
    · rw [if_neg e] at hk
      obtain ⟨g1, g2, g3, g4, g5⟩ := hF k B hk
      have hFe : (fun x => k ≠ m ∧ Ft k x) = Ft k := funext fun x => propext ⟨fun h => h.2, fun h => ⟨e, h⟩⟩
      refine ⟨hwide k g1, menB_le hwide g2, ?_, fun x hx => g4 x hx.2, fun k' B' hne hk' x hx hx' => ?_⟩
      · dsimp only
        rw [hFe, if_neg e]
        exact sat_nu (fun j hj => hν j hj) g2 g3
      · have hk' : lkr ((m, b) :: l) k' = some B' := hk'
        rw [hl, if_neg hx'.1] at hk'
        exact g5 k' B' hne hk' x hx.2 hx'.2
  · show ds = [m].flatMap _
    simp [hd]
  · rw [List.mem_singleton.1 hk]
    show Nat.blt m (m + 1) = true
    rw [Nat.blt_eq]; omega
theorem awp_defer2 {id f d s1 s2 k1 k2 m : Nat} {o1 o2 : Oper} {env : List (Nat × AV)} {l : List (Nat × Option Blk)} {Q : Exit → St → Prop}
    (h1 : o1.op = .makeFunc (.func (f + 1)) #[] #[.tmp s1, .tmp s2] ∧ o1.guard = none ∧ o1.dst = some d) (h2 : o2.op = .defer ⟨.value (.tmp d), #[], #[]⟩ ∧ o2.guard = none ∧ o2.dst = none) (hd : Nat.blt d N = true) (hκ : Nat.ble κ m = true)
    (v1 : lke env s1 = .own k1) (v2 : lke env s2 = .own k2)
    (h : Q .normal (CS.st ⟨m + 1, (d, .any) :: env, (m, some (.sem [m, k1, k2] (dfA (f + 1)))) :: l, [m]⟩)) : awp P none N κ (.region id #[o1, o2] false) (CS.st ⟨m, env, l, []⟩) Q := by
  intro n K Z ν w a hg
  rw [Nat.blt_eq] at hd
  have hκ := Nat.le_of_ble_eq_true hκ
  refine wpIn_region_lit (l := [o1, o2]) ?_
  have hw : ∀ (o : Oper) (b : Act), o.guard = none → Region.wanted o (yielded #[o1, o2] b.tmps) = true := fun o b ho => wanted_none (by rw [ho]; rfl) _
  have a1 : a.eval (.tmp s1) = ν k1 := by
    have := (opv_R (σ := CS.st ⟨m, env, l, []⟩) hg (.tmp s1))
    rw [show opv (CS.st ⟨m, env, l, []⟩).env (.tmp s1) = .own k1 from v1] at this
    exact one1 this
  have a2 : a.eval (.tmp s2) = ν k2 := by
    have := (opv_R (σ := CS.st ⟨m, env, l, []⟩) hg (.tmp s2))
    rw [show opv (CS.st ⟨m, env, l, []⟩).env (.tmp s2) = .own k2 from v2] at this
    exact one1 this
  have m1 : k1 < m := by
    have := opv_men (σ := CS.st ⟨m, env, l, []⟩) hg (.tmp s1)
    rw [show opv (CS.st ⟨m, env, l, []⟩).env (.tmp s1) = .own k1 from v1] at this
    have this : Nat.blt k1 m = true := this
    simpa only [Nat.blt_eq] using this
  have m2 : k2 < m := by
    have := opv_men (σ := CS.st ⟨m, env, l, []⟩) hg (.tmp s2)
    rw [show opv (CS.st ⟨m, env, l, []⟩).env (.tmp s2) = .own k2 from v2] at this
    have this : Nat.blt k2 m = true := this
    simpa only [Nat.blt_eq] using this
  have r1 : (o1.semAt (FF none).round a.eval).run P w = .ok (.value (.func (.func (f + 1)) #[] #[ν k1, ν k2])) w := by
    rw [semAt_plain (by rw [h1.1]; intro c hc; cases hc)]
    simp [execOp, h1.1, Instr.makeFunc, a1, a2, Sem.run_bind, Result.andThen, Sem.run]
  have e1 : (a.put o1.dst (.func (.func (f + 1)) #[] #[ν k1, ν k2])).eval (.tmp d) = .func (.func (f + 1)) #[] #[ν k1, ν k2] := by
    have := hg.size
    simp [h1.2.2, Act.put, Act.eval, Array.getD_eq_getD_getElem?, this, hd]
  have r2 : (o2.semAt (FF none).round (a.put o1.dst (.func (.func (f + 1)) #[] #[ν k1, ν k2])).eval).run P w = .ok (.defer { target := .fn (.func (f + 1)) #[ν k1, ν k2], args := #[] }) w := by
    rw [show (FF none).round = none from rfl, Oper.semAt_none]
    simp [execOp, h2.1, e1, resolve, Deferred.ofValue, Sem.run_bind, Result.andThen, Sem.run]
  simp only [wpListIn, hw o1 _ h1.2.1, hw o2 _ h2.2.1, if_true]
  refine ⟨fun f hf => trivial, ?_⟩
  rw [r1]
  refine ⟨fun f hf => trivial, ?_⟩
  rw [r2]
  have g1 := Good.setd (o := o1.dst) (v := .any) (y := .func (.func (f + 1)) #[] #[ν k1, ν k2]) hg (fun d' h => by rw [h1.2.2] at h; cases h; exact hd) ⟨_, rfl⟩ rfl
  have hds : (a.put o1.dst (.func (.func (f + 1)) #[] #[ν k1, ν k2])).defers = [] := by
    have := g1.ds
    exact this
  have g2 : Good K Z N w ν (CS.st ⟨m, (d, .any) :: env, l, []⟩) (a.put o1.dst (.func (.func (f + 1)) #[] #[ν k1, ν k2])) := by
    have he : (CS.st ⟨m, (d, .any) :: env, l, []⟩) = { (CS.st ⟨m, env, l, []⟩) with env := putO (CS.st ⟨m, env, l, []⟩).env o1.dst .any } := by
      rw [h1.2.2]
      show St.mk _ _ _ _ = St.mk _ _ _ _
      congr 1
    rw [he]; exact g1
  have g3 := Good.key (v := .func (.func (f + 1)) #[] #[ν k1, ν k2]) (b := some (.sem [m, k1, k2] (dfA (f + 1)))) (ds := [{ target := .fn (.func (f + 1)) #[ν k1, ν k2], args := #[] }]) g2 rfl (fun B hB => by
    cases hB
    refine ⟨fun k hk => ?_, fun ν' w1 w2 Z' w' _ _ => ⟨ν' k1, ν' k2, ?_⟩⟩
    · simp only [List.mem_cons, List.not_mem_nil, or_false] at hk
      simp only [ltK, Nat.blt_eq]
      rcases hk with rfl | rfl | rfl <;> omega
    · simp only [List.map_cons, List.map_nil, w1, w2 k1 m1, w2 k2 m2]) rfl
  rw [Oper.uponIn_defer]
  refine ⟨Z, fun k => if k = m then .func (.func (f + 1)) #[] #[ν k1, ν k2] else ν k, _, Step.refl K Z w, fun k hk => if_neg (by omega), ?_, h⟩
  rw [un_self hg.zk]
  show Good K Z N w _ _ ({ (a.put o1.dst (.func (.func (f + 1)) #[] #[ν k1, ν k2])) with defers := { target := .fn (.func (f + 1)) #[ν k1, ν k2], args := #[] } :: (a.put o1.dst (.func (.func (f + 1)) #[] #[ν k1, ν k2])).defers }.put o2.dst undef)
  rw [h2.2.2, hds]
  exact g3
theorem R_count : ∀ {Z : Nat → Prop} {w : World} {ν : Nat → Value} (args : List AV) (cs : List Value), R Z w (mkL args) ν true cs → cs.length = args.length
  | _, _, _, [], cs, h => by rw [show cs = [] from h]; rfl
  | _, _, _, a :: t, cs, h => by obtain ⟨v, vs, rfl, _, r2⟩ := h; simp [R_count t vs r2]
theorem good_enter {n : Nat} {args : List AV} {rin : List (Nat × Option Blk)} {K Z : Nat → Prop} {ν : Nat → Value} {w : World} {vals : Array Value} (hN : args.length ≤ n) (h1 : ∀ k, (ν k).oneCell' = true) (hr : R Z w (mkL args) ν true vals.toList) (hm : men (ltK κ) (mkL args) = true)
    (hrs : GoodRs K Z w ν (ltK κ) (lkr rin)) (hzk : ∀ b, Z b → K b) (hkl : ∀ b, K b → b < w.heap.size) : Good K Z n w ν (CS.st ⟨κ, zipE 0 args, rin, []⟩) { tmps := vals ++ Array.replicate (n - vals.size) undef, defers := [] } := by
  have hlen : vals.size = args.length := by simpa using R_count args _ hr
  have hnth : ∀ (args : List AV) (i s : Nat) (cs : List Value), R Z w (mkL args) ν true cs → men (ltK κ) (mkL args) = true → men (ltK κ) (lke (zipE i args) s) = true ∧ ((i ≤ s ∧ s < i + args.length → R Z w (lke (zipE i args) s) ν true [cs.getD (s - i) undef]) ∧ (¬ (i ≤ s ∧ s < i + args.length) → lke (zipE i args) s = .any)) := by
    intro args
    induction args with
    | nil => intro i s cs _ _; exact ⟨rfl, fun h => by simp at h; omega, fun _ => rfl⟩
    | cons a t ih =>
      intro i s cs hr hm
      obtain ⟨v, vs, rfl, r1, r2⟩ := hr
      simp only [mkL, men, Bool.and_eq_true] at hm
      obtain ⟨g1, g2, g3⟩ := ih (i + 1) s vs r2 hm.2
      by_cases hs : s = i
      · subst hs
        simp only [zipE, lke, Nat.beq_refl]
        exact ⟨hm.1, fun _ => by rw [Nat.sub_self]; exact r1, fun hn => absurd ⟨Nat.le_refl s, by simp⟩ hn⟩
      · simp only [zipE, lke, beqN hs]
        refine ⟨g1, fun hh => ?_, fun hn => g3 fun hh => hn ⟨by omega, by simp only [List.length_cons]; omega⟩⟩
        have := g2 ⟨by omega, by simp only [List.length_cons] at hh; omega⟩
        rw [show s - i = (s - (i + 1)) + 1 from by omega]
        exact this
  refine ⟨by simp; omega, h1, fun s => ?_, hrs, hzk, hkl, rfl, fun k hk => by cases hk⟩
  obtain ⟨g1, g2, g3⟩ := hnth args 0 s vals.toList hr hm
  refine ⟨g1, ?_⟩
  show R Z w (lke (zipE 0 args) s) ν true _
  by_cases hs : s < args.length
  · have := g2 ⟨by omega, by omega⟩
    have e : (vals ++ Array.replicate (n - vals.size) undef).getD s undef = vals.toList.getD (s - 0) undef := by
      simp [Array.getD_eq_getD_getElem?, List.getD_eq_getElem?_getD, Array.getElem?_append_left (show s < vals.size by omega)]
    show R Z w _ ν true [(vals ++ Array.replicate (n - vals.size) undef).getD s undef]
    rw [e]; exact this
  · rw [g3 (by omega)]; exact ⟨_, rfl⟩
/-- What the deferred function comes to, of two boxes that it captures: where a panic goes up that it knows, it ends it, and lays two values. -/
def DPan (P : Program) (f : Nat) (E : List PanicEntry → Prop) (u1 u2 v1 v2 : AV) : Prop :=
  ∀ (c : List PanicEntry) (K Z : Nat → Prop) (ν : Nat → Value) (w : World) (m k1 k2 : Nat) (l : List (Nat × Option Blk)), E c → (∀ k, (ν k).oneCell' = true) → GoodRs K Z w ν (ltK m) (lkr l) → (∀ b, Z b → K b) → (∀ b, K b → b < w.heap.size) →
    k1 < m → k2 < m → k1 ≠ k2 → lkr l k1 = some (.box u1) → lkr l k2 = some (.box u2) →
    CallsDIn (FF none) 0 P f #[ν k1, ν k2] (.panicking c) w fun e u' w' => (∃ v, e = .returned v) ∧ settle u' = .returning ∧ ∃ Z' ν' m' rs', Step K Z w Z' w' ∧ (∀ k, k < m → ν' k = ν k) ∧ (∀ k, (ν' k).oneCell' = true) ∧ GoodRs (un K Z') Z' w' ν' (ltK m') rs' ∧ m ≤ m' ∧ (∀ b, un K Z' b → b < w'.heap.size) ∧
      noDfr ((k1, some (.box v1)) :: (k2, some (.box v2)) :: l) rs'
def DRet (P : Program) (f : Nat) : Prop :=
  ∀ (w : World) (y z : Value), CallsDIn (FF none) 0 P f #[y, z] .returning w fun e u' w' => (∃ v, e = .returned v) ∧ settle u' = .returning ∧ w' = w
/-- What the body of a function must come to that has deferred such a call. -/
def exitQD (tb : Nat → Option TI) (fn : Func) (κ f : Nat) (E : List PanicEntry → Prop) (u1 u2 v1 v2 : AV) (Q : CS → AV → Prop) : Exit → St → Prop
  | .normal, s | .ret, s => ∃ (cs : CS) (l : List AV) (kd k1 k2 : Nat), s = cs.st ∧ evRes tb cs fn.results.toList = some l ∧ cs.ms = [kd] ∧ lkr cs.rs kd = some (.sem [kd, k1, k2] (dfA f)) ∧ κ ≤ cs.m ∧ Q cs (resV l)
  | .panic c, s => E c ∧ ∃ (cs : CS) (l : List AV) (kd k1 k2 : Nat), s = cs.st ∧ cs.ms = [kd] ∧ lkr cs.rs kd = some (.sem [kd, k1, k2] (dfA f)) ∧ lkr cs.rs k1 = some (.box u1) ∧ lkr cs.rs k2 = some (.box u2) ∧ k1 ≠ k2 ∧ κ ≤ cs.m ∧
      (∀ m, evRes tb ⟨m, cs.env, (k1, some (.box v1)) :: (k2, some (.box v2)) :: cs.rs, []⟩ fn.results.toList = some l) ∧ Q ⟨cs.m, cs.env, (k1, some (.box v1)) :: (k2, some (.box v2)) :: cs.rs, []⟩ (resV l)
  | _, _ => False
theorem sem_now {K Z : Nat → Prop} {w : World} {ν : Nat → Value} {x : Value} {F : Nat → Prop} {ks : List Nat} {A : List Value → (Nat → Prop) → World → (Nat → Prop) → Prop} (h : sat Z w ν x F (.sem ks A)) : A (ks.map ν) Z w F := h Z w (fun _ h => h) (fun _ _ => rfl)
theorem fgd_of (htb : TabOK P tb) {f κ nf : Nat} {fn : Func} {c : Code} {args : List AV} {rin : List (Nat × Option Blk)} {E : List PanicEntry → Prop} {u1 u2 v1 v2 : AV} {Q : GR → Prop} (hf : P.funcs[f]? = some fn) (hname : (fn.name == "runtime.NumGoroutine") = false) (hb : fn.body = some c) (hN : args.length ≤ fn.ntmps)
    (hfn : Plain P (nf + 1)) (hret : DRet P (nf + 1)) (hpan : DPan P (nf + 1) E u1 u2 v1 v2)
    (h : lenP (mkL args) → awp P none fn.ntmps κ c (CS.st ⟨κ, zipE 0 args, rin, []⟩) (exitQD tb fn κ (nf + 1) E u1 u2 v1 v2 (gQ κ Q))) : FG P f args rin κ Q := by
  refine ⟨⟨fn, hf, hname, by rw [hb]; rfl⟩, ?_⟩
  intro K Z ν w vals h1 hr hm hrs hzk hkl
  have hgood := good_enter (n := fn.ntmps) hN h1 hr hm hrs hzk hkl
  refine CallsIn.calls (F := FF none) (n := 0) (callsIn_of_wp_marks (F := FF none) (n := 0) (args := vals) (w := w) hf hb trivial (wpIn_mono (h (R_lenP hr) 0 K Z ν w _ hgood) ?_)) (fun k d hd => by cases hd)
  rintro e a' w' ⟨Z', ν', σ', hst, hν, hg, hq⟩
  -- the end, in a state without deferred calls
  have fin : ∀ (cs : CS) (l : List AV) (Z2 : Nat → Prop) (w2 : World) (ν2 : Nat → Value) (m2 : Nat) (rs2 : Rs), evRes tb cs fn.results.toList = some l → gQ κ Q cs (resV l) → κ ≤ m2 → Step K Z w Z2 w2 → (∀ k, k < κ → ν2 k = ν k) → Good (un K Z2) Z2 fn.ntmps w2 ν2 ⟨ltK m2, lke cs.env, rs2, []⟩ { a' with defers := [] } → noDfr cs.rs rs2 →
      LeavesInM (FF none) 0 P fn a'.tmps (fun e w' => ∃ (y : Value) (Z' : Nat → Prop) (ν' : Nat → Value) (v : AV) (μ' : Nat → Bool) (rs' : Rs), e = .returned y ∧ Step K Z w Z' w' ∧ (∀ k, (ν' k).oneCell' = true) ∧ (∀ k, k < κ → ν' k = ν k) ∧ (∀ k, k < κ → μ' k = true) ∧
        R Z' w' v ν' true [y] ∧ men μ' v = true ∧ GoodRs (un K Z') Z' w' ν' μ' rs' ∧ (∀ b, Z' b → b < w'.heap.size) ∧ ∃ g : GR, Q g ∧ v = g.val ∧ μ' = ltK g.m ∧ κ ≤ g.m ∧ rs' = lkr g.rs) [] .returning w2 := by
    rintro cs l Z2 w2 ν2 m2 rs2 hev ⟨g, ρ, hQ, G⟩ hκm hs2 hν2 hg2 hnd
    obtain ⟨y, hy, hry, hmy⟩ := results_ok htb hg2 rfl hnd hev
    show ∃ v, (results fn a'.tmps).run P w2 = .ok v w2 ∧ _
    refine ⟨y, hy, y, Z2, fun k => ν2 (rhoL ρ k), g.val, ltK g.m, lkr g.rs, rfl, hs2, fun k => hg2.one _, fun k hk => by show ν2 (rhoL ρ k) = ν k; rw [G.id k hk]; exact hν2 k hk, fun k hk => by show Nat.blt k g.m = true; rw [Nat.blt_eq]; have := G.le; omega, R_ren.1 (G.val _ _ _ _ hry), G.mval, ?_, fun b hb => hg2.kl b (hg2.zk b hb), g, hQ, rfl, rfl, G.le, rfl⟩
    obtain ⟨Ft, hF⟩ := hg2.rs
    refine ⟨fun k => Ft (rhoL ρ k), fun k B hk => ?_⟩
    obtain ⟨a1, a2, a3, a4⟩ := G.rs k B hk
    have hk2 := hnd _ _ a4 (renB_dfr a3)
    obtain ⟨g1, g2, g3, g4, g5⟩ := hF _ _ hk2
    refine ⟨by show Nat.blt k g.m = true; rw [Nat.blt_eq]; exact a1, a2, sat_ren.1 g3, g4, fun k' B' hne hk' => ?_⟩
    obtain ⟨b1, b2, b3, b4⟩ := G.rs k' B' hk'
    exact g5 _ _ (fun e => hne (G.inj k k' B B' hk hk' e)) (hnd _ _ b4 (renB_dfr b3))
  -- what is deferred
  have dfo : ∀ (cs : CS) (kd k1 k2 : Nat), σ' = cs.st → cs.ms = [kd] → lkr cs.rs kd = some (.sem [kd, k1, k2] (dfA (nf + 1))) → a'.defers = [{ target := .fn (.func (nf + 1)) #[ν' k1, ν' k2], args := #[] }] := by
    intro cs kd k1 k2 e1 e2 e3
    subst e1
    have hd := hg.ds
    have hd : a'.defers = cs.ms.flatMap (fun k => markOf (ν' k)) := hd
    obtain ⟨Ft, hF⟩ := hg.rs
    obtain ⟨y, z, hyz⟩ := sem_now (K := K) (hF kd _ e3).2.2.1
    simp only [List.map_cons, List.map_nil, List.cons.injEq, and_true] at hyz
    obtain ⟨h1, h2, h3⟩ := hyz
    rw [hd, e2]
    simp only [List.flatMap_cons, List.flatMap_nil, List.append_nil, h1, h2, h3]
    rfl
  obtain ⟨fn', hfn', hname', hbody'⟩ := hfn
  have hinv : ∀ (y z : Value) (w : World), (invoke (.fn (.func (nf + 1)) #[y, z]) #[]).run P w = .ok (.enter (nf + 1) #[y, z]) w := by
    intro y z w
    simp [invoke, callFunc, hfn', Sem.run_bind, Result.andThen, Sem.run, program]
    have hname'' : ¬ fn'.name = "runtime.NumGoroutine" := by simpa using hname'
    cases hb : fn'.body with
    | none => rw [hb] at hbody'; cases hbody'
    | some c => simp [hname'', hb, Sem.run]
  have key : ∀ (cs : CS) (l : List AV) (kd k1 k2 : Nat), σ' = cs.st → evRes tb cs fn.results.toList = some l → cs.ms = [kd] → lkr cs.rs kd = some (.sem [kd, k1, k2] (dfA (nf + 1))) → κ ≤ cs.m → gQ κ Q cs (resV l) →
      LeavesInM (FF none) 0 P fn a'.tmps (fun e w' => ∃ (y : Value) (Z' : Nat → Prop) (ν' : Nat → Value) (v : AV) (μ' : Nat → Bool) (rs' : Rs), e = .returned y ∧ Step K Z w Z' w' ∧ (∀ k, (ν' k).oneCell' = true) ∧ (∀ k, k < κ → ν' k = ν k) ∧ (∀ k, k < κ → μ' k = true) ∧
        R Z' w' v ν' true [y] ∧ men μ' v = true ∧ GoodRs (un K Z') Z' w' ν' μ' rs' ∧ (∀ b, Z' b → b < w'.heap.size) ∧ ∃ g : GR, Q g ∧ v = g.val ∧ μ' = ltK g.m ∧ κ ≤ g.m ∧ rs' = lkr g.rs) a'.defers .returning w' := by
    intro cs l kd k1 k2 e1 e2 e3 e4 e5 e6
    rw [dfo cs kd k1 k2 e1 e3 e4]
    subst e1
    refine ⟨by simp, .inr ⟨(fun h => by cases h), .func (nf + 1), #[ν' k1, ν' k2], nf + 1, #[ν' k1, ν' k2], rfl, hinv _ _ _, fun g _ => trivial, CallsDIn.mono (hret w' (ν' k1) (ν' k2)) ?_⟩⟩
    rintro e u' w2 ⟨⟨v, rfl⟩, hu, rfl⟩
    show LeavesInM _ _ _ _ _ _ [] (settle u') _
    rw [hu]
    refine fin cs l Z' w2 ν' cs.m (lkr cs.rs) e2 e6 e5 hst hν ?_ (fun k B hk _ => hk)
    exact ⟨hg.size, hg.one, hg.env, hg.rs, hg.zk, hg.kl, rfl, fun k hk => by cases hk⟩
  cases e with
  | normal => obtain ⟨cs, l, kd, k1, k2, e1, e2, e3, e4, e5, e6⟩ := hq; exact key cs l kd k1 k2 e1 e2 e3 e4 e5 e6
  | ret => obtain ⟨cs, l, kd, k1, k2, e1, e2, e3, e4, e5, e6⟩ := hq; exact key cs l kd k1 k2 e1 e2 e3 e4 e5 e6
  | panic ch =>
    obtain ⟨hE, cs, l, kd, k1, k2, e1, e3, e4, b1, b2, hne, e5, e2, e6⟩ := hq
    show LeavesInM _ _ _ _ _ _ a'.defers _ _
    rw [dfo cs kd k1 k2 e1 e3 e4]
    subst e1
    obtain ⟨Ft, hF⟩ := id hg.rs
    have lt1 : k1 < cs.m := by
      have := (hF k1 _ b1).1
      have this : ltK cs.m k1 = true := this
      simpa only [ltK, Nat.blt_eq] using this
    have lt2 : k2 < cs.m := by
      have := (hF k2 _ b2).1
      have this : ltK cs.m k2 = true := this
      simpa only [ltK, Nat.blt_eq] using this
    refine ⟨by simp, .inr ⟨(fun h => by cases h), .func (nf + 1), #[ν' k1, ν' k2], nf + 1, #[ν' k1, ν' k2], rfl, hinv _ _ _, fun g _ => trivial, CallsDIn.mono (hpan ch (un K Z') Z' ν' w' cs.m k1 k2 cs.rs hE hg.one hg.rs hg.zk hg.kl lt1 lt2 hne b1 b2) ?_⟩⟩
    rintro e u' w2 ⟨⟨v, rfl⟩, hu, Z2, ν2, m2, rs2, hs2, hν2, ho2, hg2, hm2, hkl2, hnd2⟩
    show LeavesInM _ _ _ _ _ _ [] (settle u') _
    rw [hu]
    have hs3 := hst.trans hs2
    have hwide : ∀ k, ltK cs.m k = true → ltK m2 k = true := fun k hk => by simp only [ltK, Nat.blt_eq] at hk ⊢; omega
    refine fin ⟨cs.m, cs.env, (k1, some (.box v1)) :: (k2, some (.box v2)) :: cs.rs, []⟩ l Z2 w2 ν2 m2 rs2 (e2 _) e6 (by omega) hs3 (fun k hk => (hν2 k (by omega)).trans (hν k hk)) ?_ hnd2
    rw [un_assoc hs2.le] at hg2 hkl2
    exact ⟨hg.size, ho2, fun s => ⟨men_le hwide (hg.env s).1, R_nu (fun k hk => hν2 k (by have hk : Nat.blt k cs.m = true := hk; simpa only [Nat.blt_eq] using hk)) (hg.env s).1 (R_mono hs2.le (fun b hb => hs2.ext.block b (.inr hb)) (hg.env s).2)⟩, hg2, fun b hb => .inr hb, hkl2, rfl, fun k hk => by cases hk⟩
  | _ => exact hq.elim
end
end Go.Proofs.Ytlckljphakkomaa.Cal
namespace Go.Proofs.Ytlckljphakkomaa.Cal
open Go Pl
section
variable {P : Program} {N κ : Nat} {tb : Nat → Option TI}
/-- A variable of a struct without fields. -/
theorem awpL_new0 {o1 o2 : Oper} {t : List Oper} {ty d s m : Nat} {env : List (Nat × AV)} {l : List (Nat × Option Blk)} {ms : List Nat} {Q : Exit → St → Prop} (h1 : o1.op = .alloc ty) (g1 : o1.guard = none) (k1 : o1.dst = some d) (h2 : o2.op = .store ty (.tmp d) (.tmp s)) (g2 : o2.guard = none) (k2 : o2.dst = none) (hN : Nat.blt d N = true) (hs : lke ((d, .any) :: env) s = .agg .nil)
    (hA : ∀ w, (Instr.alloc ty true (.tuple #[])).run P w = .ok (.pointer (some ⟨w.heap.size, 0, none⟩)) (w.alloc (.cells #[] ty))) (hS : ∀ b w, (Instr.storeAt ty (.pointer (some ⟨b, 0, none⟩)) (.agg #[])).run P w = .ok () w)
    (h : awpL P none N κ t (CS.st ⟨m, (d, .any) :: env, l, ms⟩) Q) : awpL P none N κ (o1 :: o2 :: t) (CS.st ⟨m, env, l, ms⟩) Q := by
  intro n K Z ν w a hg
  have hw : ∀ (o : Oper) (b : Act), o.guard = none → Region.wanted o (yielded #[] b.tmps) = true := fun o b ho => wanted_none (by rw [ho]; rfl) _
  rw [Nat.blt_eq] at hN
  simp only [wpListIn, hw o1 _ g1, hw o2 _ g2, if_true]
  have r1 : (o1.semAt (FF none).round a.eval).run P w = .ok (.value (.pointer (some ⟨w.heap.size, 0, none⟩))) (w.alloc (.cells #[] ty)) := by
    rw [semAt_plain (fun c hc => by rw [h1] at hc; cases hc)]
    simp [execOp, h1, Sem.run_bind, hA, Result.andThen, Sem.run]
  have hst := step_alloc (Z := Z) hg.kl (.cells #[] ty)
  have hg' : Good K Z N (w.alloc (.cells #[] ty)) ν (CS.st ⟨m, env, l, ms⟩) a :=
    ⟨hg.size, hg.one, fun s => ⟨(hg.env s).1, R_mono (fun _ h => h) (fun b hb => hst.ext.block b (hg.zk b hb)) (hg.env s).2⟩, hg.rs.mono (fun _ h => h) (fun b hb => alloc_old _ (hg.kl b (hg.zk b hb))) (by simp) (fun b hb => .inl hb) (fun b _ hb => alloc_old _ hb), hg.zk, fun b hb => by have := hg.kl b hb; simp; omega, hg.ds, hg.ml⟩
  have g3 := Good.setd (o := o1.dst) (v := .any) (y := .pointer (some ⟨w.heap.size, 0, none⟩)) hg' (fun d' h => by rw [k1] at h; cases h; exact hN) ⟨_, rfl⟩ rfl
  have he : (CS.st ⟨m, (d, .any) :: env, l, ms⟩) = { (CS.st ⟨m, env, l, ms⟩) with env := putO (CS.st ⟨m, env, l, ms⟩).env o1.dst .any } := by
    rw [k1]
    show St.mk _ _ _ _ = St.mk _ _ _ _
    congr 1
  rw [← he] at g3
  have ed : (a.put o1.dst (.pointer (some ⟨w.heap.size, 0, none⟩))).eval (.tmp d) = .pointer (some ⟨w.heap.size, 0, none⟩) := by
    have := hg.size
    simp [k1, Act.put, Act.eval, Array.getD_eq_getD_getElem?, this, hN]
  have es : (a.put o1.dst (.pointer (some ⟨w.heap.size, 0, none⟩))).eval (.tmp s) = .agg #[] := by
    have := opv_R (σ := CS.st ⟨m, (d, .any) :: env, l, ms⟩) g3 (.tmp s)
    rw [show opv (CS.st ⟨m, (d, .any) :: env, l, ms⟩).env (.tmp s) = .agg .nil from hs] at this
    obtain ⟨es, e, r⟩ := this
    rw [show es = [] from r] at e
    exact one1 e
  have r2 : (o2.semAt (FF none).round (a.put o1.dst (.pointer (some ⟨w.heap.size, 0, none⟩))).eval).run P (w.alloc (.cells #[] ty)) = .ok .skip (w.alloc (.cells #[] ty)) := by
    rw [semAt_plain (fun c hc => by rw [h2] at hc; cases hc)]
    simp [execOp, h2, Sem.run_bind, ed, es, hS, Result.andThen, Sem.run]
  refine ⟨fun f hf => trivial, ?_⟩
  rw [r1]
  refine ⟨fun f hf => trivial, ?_⟩
  rw [r2, Oper.uponIn_skip]
  have e2 : (a.put o1.dst (.pointer (some ⟨w.heap.size, 0, none⟩))).put o2.dst undef = a.put o1.dst (.pointer (some ⟨w.heap.size, 0, none⟩)) := by rw [k2]; rfl
  rw [e2]
  have hh := h n K Z ν _ _ g3
  refine wpList_mono (fun e a2 w2 hp => ?_) hh
  obtain ⟨Z', ν', σ', hs, hk, hg2, hq⟩ := hp
  exact ⟨Z', ν', σ', hst.trans (by rw [un_self hg.zk]; exact hs), hk, hg2, hq⟩
/-- An operation that yields a known value. -/
theorem awpL_val {o : Oper} {t : List Oper} {d m : Nat} {v : Value} {u : AV} {env : List (Nat × AV)} {l : List (Nat × Option Blk)} {ms : List Nat} {Q : Exit → St → Prop} (hd : o.dst = some d) (hN : Nat.blt d N = true) (hgd : o.guard = none) (hp : ∀ c, o.op ≠ .defer c)
    (hrun : ∀ (ρ : Operand → Value) (w : World), (∀ s x, lke env s = .cst x → ρ (.tmp s) = x) → (∀ c, ρ (.const c) = c) → (execOp ρ o).run P w = .ok (.value v) w)
    (hu : ∀ Z w ν, R Z w u ν true [v]) (hm : ∀ μ, men μ u = true) (h : awpL P none N κ t (CS.st ⟨m, (d, u) :: env, l, ms⟩) Q) : awpL P none N κ (o :: t) (CS.st ⟨m, env, l, ms⟩) Q := by
  intro n K Z ν w a hg
  have hw : Region.wanted o (yielded #[] a.tmps) = true := wanted_none (by rw [hgd]; rfl) _
  simp only [wpListIn, hw, if_true]
  refine ⟨fun f hf => trivial, ?_⟩
  have hr : (o.semAt (FF none).round a.eval).run P w = .ok (.value v) w := by
    rw [semAt_plain (fun c hc => absurd hc (hp c))]
    refine hrun a.eval w (fun s x hs => ?_) fun c => rfl
    have := opv_R (σ := CS.st ⟨m, env, l, ms⟩) hg (.tmp s)
    rw [show opv (CS.st ⟨m, env, l, ms⟩).env (.tmp s) = .cst x from hs] at this
    exact one1 this
  rw [hr]
  rw [Nat.blt_eq] at hN
  have g1 := Good.setd (o := o.dst) (v := u) (y := v) hg (fun d' h => by rw [hd] at h; cases h; exact hN) (hu _ _ _) (hm _)
  have he : (CS.st ⟨m, (d, u) :: env, l, ms⟩) = { (CS.st ⟨m, env, l, ms⟩) with env := putO (CS.st ⟨m, env, l, ms⟩).env o.dst u } := by
    rw [hd]
    show St.mk _ _ _ _ = St.mk _ _ _ _
    congr 1
  rw [← he] at g1
  exact h n K Z ν w _ g1
end
section
variable {F : Fence} {n : Nat} {P : Program} {Q : Exit → Act → List Frame → World → Prop}
theorem recover_pan {o1 o2 : Oper} {d1 d2 : Nat} {a : Act} {c₀ : Frame} {cs : List Frame} {w : World} {v : Value} {older : List PanicEntry} (hF : ∀ f, F.fn f) (h1 : o1.op = .call ⟨.builtin .recover, #[], #[]⟩) (g1 : o1.guard = none) (k1 : o1.dst = some d1) (h2 : o2.op = .assign (.tmp d1)) (g2 : o2.guard = none) (k2 : o2.dst = some d2)
    (hs : d1 < a.tmps.size) (hu : c₀.mode = .panicking ({ v, recovered := false } :: older)) (h : Q .normal ((a.put (some d1) v).put (some d2) v) ({ c₀ with mode := .panicking ({ v, recovered := true } :: older) } :: cs) w) :
    wpOpsSIn F n P #[o1, o2] Q (List.range (#[o1, o2] : Array Oper).size) a (c₀ :: cs) w := by
  have hw : ∀ (o : Oper) (b : Act), o.guard = none → Region.wanted o (yielded #[o1, o2] b.tmps) = true := fun o b ho => wanted_none (by rw [ho]; rfl) _
  show wpOpsSIn F n P #[o1, o2] Q [0, 1] a (c₀ :: cs) w
  have e0 : (#[o1, o2] : Array Oper)[0]? = some o1 := rfl
  have e1 : (#[o1, o2] : Array Oper)[1]? = some o2 := rfl
  have r1 : (execOp a.eval o1).run P w = .ok .recover w := by
    simp [execOp, h1, go_sem]
  have ev : (a.put (some d1) v).eval (.tmp d1) = v := by
    simp [Act.put, Act.eval, Array.getD_eq_getD_getElem?, hs]
  have r2 : (execOp (a.put (some d1) v).eval o2).run P w = .ok (.value v) w := by
    simp only [execOp, h2, ev]; rfl
  have hrec : recoverD (c₀ :: cs) = some (v, { c₀ with mode := .panicking ({ v, recovered := true } :: older) } :: cs) := by
    simp only [recoverD, hu]
  simp only [wpOpsSIn, e0, e1, hw o1 _ g1, hw o2 _ g2, if_true, r1, hrec, k1, k2, r2]
  exact ⟨fun f _ => hF f, fun f _ => hF f, h⟩
theorem two_ops {o1 o2 : Oper} {a : Act} {cs : List Frame} {w : World} {v1 v2 : Value} (hF : ∀ f, F.fn f) (g1 : o1.guard = none) (g2 : o2.guard = none) (r1 : (execOp a.eval o1).run P w = .ok (.value v1) w) (r2 : (execOp (a.put o1.dst v1).eval o2).run P w = .ok (.value v2) w)
    (h : Q .normal ((a.put o1.dst v1).put o2.dst v2) cs w) : wpOpsSIn F n P #[o1, o2] Q (List.range (#[o1, o2] : Array Oper).size) a cs w := by
  have hw : ∀ (o : Oper) (b : Act), o.guard = none → Region.wanted o (yielded #[o1, o2] b.tmps) = true := fun o b ho => wanted_none (by rw [ho]; rfl) _
  show wpOpsSIn F n P #[o1, o2] Q [0, 1] a cs w
  have e0 : (#[o1, o2] : Array Oper)[0]? = some o1 := rfl
  have e1 : (#[o1, o2] : Array Oper)[1]? = some o2 := rfl
  simp only [wpOpsSIn, e0, e1, hw o1 _ g1, hw o2 _ g2, if_true, r1, r2]
  exact ⟨fun f _ => hF f, fun f _ => hF f, h⟩
theorem recover_ret {o1 o2 : Oper} {d1 d2 : Nat} {a : Act} {c₀ : Frame} {cs : List Frame} {w : World} (hF : ∀ f, F.fn f) (h1 : o1.op = .call ⟨.builtin .recover, #[], #[]⟩) (g1 : o1.guard = none) (k1 : o1.dst = some d1) (h2 : o2.op = .assign (.tmp d1)) (g2 : o2.guard = none) (k2 : o2.dst = some d2)
    (hs : d1 < a.tmps.size) (hu : c₀.mode = .returning) (h : Q .normal ((a.put (some d1) .nilIface).put (some d2) .nilIface) (c₀ :: cs) w) :
    wpOpsSIn F n P #[o1, o2] Q (List.range (#[o1, o2] : Array Oper).size) a (c₀ :: cs) w := by
  have hw : ∀ (o : Oper) (b : Act), o.guard = none → Region.wanted o (yielded #[o1, o2] b.tmps) = true := fun o b ho => wanted_none (by rw [ho]; rfl) _
  show wpOpsSIn F n P #[o1, o2] Q [0, 1] a (c₀ :: cs) w
  have e0 : (#[o1, o2] : Array Oper)[0]? = some o1 := rfl
  have e1 : (#[o1, o2] : Array Oper)[1]? = some o2 := rfl
  have r1 : (execOp a.eval o1).run P w = .ok .recover w := by
    simp [execOp, h1, go_sem]
  have ev : (a.put (some d1) .nilIface).eval (.tmp d1) = .nilIface := by
    simp [Act.put, Act.eval, Array.getD_eq_getD_getElem?, hs]
  have r2 : (execOp (a.put (some d1) .nilIface).eval o2).run P w = .ok (.value .nilIface) w := by
    simp only [execOp, h2, ev]; rfl
  have hrec : recoverD (c₀ :: cs) = none := by
    simp only [recoverD, hu]
  simp only [wpOpsSIn, e0, e1, hw o1 _ g1, hw o2 _ g2, if_true, r1, hrec, k1, k2, r2]
  exact ⟨fun f _ => hF f, fun f _ => hF f, h⟩
end
theorem solved1_res (tmps : Array Value) (w : World) : (results Try.f37 tmps).run Try.prog w = .ok (.tuple #[]) w := by
  have h : Try.f37.results = #[] := rfl
  simp [results, h, Sem.run_bind, Sem.run]
def nilR : AV := .agg (.cons (.cst (.slice none 0 0)) (.cons (.cst (.slice none 0 0)) .nil))
def refV : Value := .iface 66 (.agg #[])
set_option maxRecDepth 4000 in
set_option maxHeartbeats 4000000 in
theorem solved1_pan : DPan Try.prog 37 (fun c => c = refusedV) nilR (.int .i64 0) nilR (.int .i64 3) := by
  unfold nilR
  rintro c K Z ν w m k1 k2 l rfl hone hrs hzk hkl hk1 hk2 hne hb1 hb2
  refine callsDIn_of_wpSIn (fn := Try.f37) (by kernel_rfl) rfl trivial fun c₀ cs hu => ?_
  refine wpSIn_seq (wpSIn_region ?_)
  refine recover_pan (fun _ => trivial) rfl rfl rfl rfl rfl rfl (by simp) hu ?_
  refine wpSIn_of_wpIn rfl ?_
  have h1 : ∀ i, Nat.beq k1 (m + i) = false := fun i => beqN (by omega)
  have h2 : ∀ i, Nat.beq k2 (m + i) = false := fun i => beqN (by omega)
  have h3 : Nat.beq k1 k2 = false := beqN hne
  have h4 : Nat.beq k2 k1 = false := beqN fun h => hne h.symm
  have h0 : Nat.beq k1 m = false := beqN (by omega)
  have h5 : ∀ B, lkr (set1 k1 B l) k2 = some (.box (.int .i64 0)) := fun B => by rw [lkr_set1]; exact (if_neg fun h => hne h.symm).trans hb2
  have hg0 := good_enter (κ := m) (n := 17) (args := [.own k1, .own k2]) (rin := l) (vals := #[ν k1, ν k2]) (Nat.le_of_ble_eq_true rfl) hone ⟨_, _, rfl, rfl, _, _, rfl, rfl, rfl⟩ (by simp only [mkL, men, ltK, Nat.blt_eq, Bool.and_true, Bool.and_eq_true]; exact ⟨hk1, hk2⟩) hrs hzk hkl
  have hg1 := Good.setd (o := some 5) (v := .cst refV) (y := refV) hg0 (fun d h => by cases h; decide) rfl rfl
  have hg2 := Good.setd (o := some 2) (v := .cst refV) (y := refV) hg1 (fun d h => by cases h; decide) rfl rfl
  have hg : Good K Z 17 w ν (CS.st ⟨m, [(2, .cst refV), (5, .cst refV), (0, .own k1), (1, .own k2)], l, []⟩) ((({ tmps := #[ν k1, ν k2] ++ Array.replicate (17 - (#[ν k1, ν k2] : Array Value).size) undef, defers := [] } : Act).put (some 5) refV).put (some 2) refV) := hg2
  refine wpIn_mono (Q := Post 17 m K Z w ν fun e s => e = .normal ∧ ∃ m' env', m ≤ m' ∧ s = CS.st ⟨m', env', set1 k2 (.box (.int .i64 3)) (set1 k1 (.box nilR) l), []⟩) ?_ ?_
  · suffices hh : awp Try.prog none 17 m _ _ _ from hh 0 K Z ν w _ hg
    have hb : ∀ w, (binOp .neq 20 refV .nilIface).run Try.prog w = .ok (.bool true) w := fun w => by kernel_rfl
    have hq : ∀ w, (eqGuard .neq 20 (.tmp 6) (.const .nilIface) refV .nilIface).run Try.prog w = .ok () w := fun w => by kernel_rfl
    have ht : ∀ w, (Instr.typeAssert refV 20 66 true).run Try.prog w = .ok (.tuple #[.agg #[], .bool true]) w := fun w => by kernel_rfl
    have hx0 : ∀ w, (Instr.extract (.tuple #[.agg #[], .bool true]) 0).run Try.prog w = .ok (.agg #[]) w := fun w => by kernel_rfl
    have hx1 : ∀ w, (Instr.extract (.tuple #[.agg #[], .bool true]) 1).run Try.prog w = .ok (.bool true) w := fun w => by kernel_rfl
    refine awp_seq (awp_list rfl ?_)
    refine awpL_val rfl rfl rfl (fun c h => by cases h) (v := refV) (u := .cst refV) (fun ρ w h hc => by simp [execOp, h 2 refV rfl, Sem.run]) (fun _ _ _ => rfl) (fun _ => rfl) ?_
    refine awpL_val rfl rfl rfl (fun c h => by cases h) (v := .bool true) (u := .bool true) (fun ρ w h hc => by simp [execOp, h 6 refV rfl, hc, Sem.run_bind, hq, hb, Result.andThen, Sem.run]) (fun _ _ _ => rfl) (fun _ => rfl) ?_
    refine awpL_nil (next_then ?_)
    refine awp_condO (s := ⟨m, _, l, []⟩) (b := true) rfl (fun _ => ?_) (fun h => by cases h)
    refine awp_seq (awp_seq ?_)
    refine awp_list rfl ?_
    refine awpL_val rfl rfl rfl (fun c h => by cases h) (v := refV) (u := .cst refV) (fun ρ w h hc => by simp [execOp, h 2 refV rfl, Sem.run]) (fun _ _ _ => rfl) (fun _ => rfl) ?_
    refine awpL_val rfl rfl rfl (fun c h => by cases h) (v := .tuple #[.agg #[], .bool true]) (u := .cst (.tuple #[.agg #[], .bool true])) (fun ρ w h hc => by simp [execOp, h 9 refV rfl, hc, Sem.run_bind, ht, Result.andThen, Sem.run]) (fun _ _ _ => rfl) (fun _ => rfl) ?_
    refine awpL_val rfl rfl rfl (fun c h => by cases h) (v := .tuple #[.agg #[], .bool true]) (u := .cst (.tuple #[.agg #[], .bool true])) (fun ρ w h hc => by simp [execOp, h 10 _ rfl, Sem.run]) (fun _ _ _ => rfl) (fun _ => rfl) ?_
    refine awpL_val rfl rfl rfl (fun c h => by cases h) (v := .agg #[]) (u := .agg .nil) (fun ρ w h hc => by simp [execOp, h 8 _ rfl, hc, Sem.run_bind, hx0, Result.andThen, Sem.run]) (fun _ _ _ => ⟨[], rfl, rfl⟩) (fun _ => rfl) ?_
    refine awpL_val rfl rfl rfl (fun c h => by cases h) (v := .bool true) (u := .cst (.bool true)) (fun ρ w h hc => by simp [execOp, h 8 _ rfl, hc, Sem.run_bind, hx1, Result.andThen, Sem.run]) (fun _ _ _ => rfl) (fun _ => rfl) ?_
    refine awpL_new0 rfl rfl rfl rfl rfl rfl rfl rfl (fun w => by kernel_rfl) (fun b w => by kernel_rfl) ?_
    refine awpL_val rfl rfl rfl (fun c h => by cases h) (v := .bool true) (u := .bool true) (fun ρ w h hc => by simp [execOp, h 12 _ rfl, Sem.run]) (fun _ _ _ => rfl) (fun _ => rfl) ?_
    refine awpL_nil (next_then ?_)
    refine awp_seq (awp_list rfl ?_)
    refine awpL_text htb hmz noSp (fun _ => false) rfl rfl (Nat.ble_self_eq_true m) ?_
    intro m' e' l' ob h; simp only [zE0, zE1, zE2, zE3, zE4, zE5, evp, evx, ev1, evLoad, evStore, evBin, isBoolK, forall_const, z38, tb, Nat.reduceAdd, Nat.reduceSub, Nat.reduceMul, Nat.reduceEqDiff, Nat.reduceLeDiff, Nat.reduceLT, Nat.reduceBEq, Nat.reduceBNe, ↓reduceIte, reduceIte, nilR, h5, h0, h1, h2, h3, h4, hb1, hb2, Nat.beq_refl] at h; obtain ⟨rfl, rfl, rfl, rfl⟩ := h; refine ⟨?_, ?_⟩
    · first | ((with_reducible refine Ob.mk ?_); first | exact trivial | (intros; omega) | ((repeat' first | apply And.intro | (intro hg; have hg' := hg; try simp only [zH] at hg')) <;> first | assumption | omega | (simp only [zH]; omega))) | skip
    refine next_then ?_
    refine awp_condO (s := ⟨_, _, l, []⟩) (b := false) rfl (fun h => by cases h) (fun _ => ?_)
    refine awp_skip (next_then ?_)
    refine awp_list rfl ?_
    refine awpL_text htb hmz noSp (fun _ => false) rfl rfl (Nat.ble_eq.symm ▸ (by omega)) ?_
    intro m' e' l' ob h; simp only [zE0, zE1, zE2, zE3, zE4, zE5, evp, evx, ev1, evLoad, evStore, evBin, isBoolK, forall_const, z38, tb, Nat.reduceAdd, Nat.reduceSub, Nat.reduceMul, Nat.reduceEqDiff, Nat.reduceLeDiff, Nat.reduceLT, Nat.reduceBEq, Nat.reduceBNe, ↓reduceIte, reduceIte, nilR, h5, h0, h1, h2, h3, h4, hb1, hb2, Nat.beq_refl] at h; obtain ⟨rfl, rfl, rfl, rfl⟩ := h; refine ⟨?_, rfl, _, _, ?_, rfl⟩
    · first | ((with_reducible refine Ob.mk ?_); first | exact trivial | (intros; omega) | ((repeat' first | apply And.intro | (intro hg; have hg' := hg; try simp only [zH] at hg')) <;> first | assumption | omega | (simp only [zH]; omega))) | skip
    · omega
  rintro e a' w' ⟨Z', ν', σ', hst, hν, hg', rfl, m', env', hm', rfl⟩
  refine ⟨hg'.ds, _, rfl, .tuple #[], solved1_res _ _, ⟨_, rfl⟩, rfl, Z', ν', m', _, hst, hν, hg'.one, hg'.rs, hm', hg'.kl, fun k B hk _ => ?_⟩
  show lkr _ k = _
  rw [lkr_set1, lkr_set1]
  unfold lkr at hk ⊢
  simp only [lko] at hk
  by_cases e1 : k = k1
  · subst e1
    rw [Nat.beq_refl] at hk
    simp only [if_neg hne, if_true]
    exact hk
  · rw [beqN e1] at hk
    by_cases e2 : k = k2
    · subst e2
      rw [Nat.beq_refl] at hk
      simp only [if_true]
      exact hk
    · rw [beqN e2] at hk
      simp only [if_neg e1, if_neg e2]
      exact hk
theorem solved1_ret : DRet Try.prog 37 := by
  intro w y z
  refine callsDIn_of_wpSIn (fn := Try.f37) (by kernel_rfl) rfl trivial fun c₀ cs hu => ?_
  refine wpSIn_seq (wpSIn_region ?_)
  refine recover_ret (fun _ => trivial) rfl rfl rfl rfl rfl rfl (by simp) hu ?_
  have hb : ∀ w, (binOp .neq 20 .nilIface .nilIface).run Try.prog w = .ok (.bool false) w := fun w => by kernel_rfl
  have hq : ∀ w, (eqGuard .neq 20 (.tmp 6) (.const .nilIface) .nilIface .nilIface).run Try.prog w = .ok () w := fun w => by kernel_rfl
  refine wpSIn_seq (wpSIn_region ?_)
  refine two_ops (v1 := .nilIface) (v2 := .bool false) (fun _ => trivial) rfl rfl (by kernel_rfl) (by kernel_rfl) ?_
  refine wpSIn_cond (t := false) (by kernel_rfl) ?_
  simp only [Bool.false_eq_true, if_false]
  refine wpSIn_of_wpIn rfl (wpIn_skip ?_)
  refine ⟨rfl, .returning, ?_, .tuple #[], solved1_res _ _, ⟨_, rfl⟩, rfl, rfl⟩
  cases c₀
  cases hu
  rfl
end Go.Proofs.Ytlckljphakkomaa.Cal
namespace Go.Proofs.Ytlckljphakkomaa.Cal
open Go Pl
set_option maxRecDepth 4000 in
set_option maxHeartbeats 4000000 in
theorem solved_fg {o p : List Int} {x : List (List Int)} (hob : validB ⟨o, p, x⟩ = true) {K : List Bool} (hs : ZI ⟨o, p, x⟩ ⟨K, List.replicate x.length (-1), List.replicate x.length (-1), 131072⟩) :
    FG Try.prog 24 [.agg (.cons (.roI o) (.cons (.roI p) (.cons (.roII x) .nil))), .roB K] [] 0 fun g => ∃ (W' C' : List Int) (e : Int), ((e = 0 ∧ ∃ l', ZR ⟨o, p, x⟩ K (List.replicate x.length (-1)) (List.replicate x.length (-1)) 131072 W' C' l') ∨ (e = 3 ∧ W' = [] ∧ C' = [] ∧ ZP ⟨o, p, x⟩ K (List.replicate x.length (-1)) (List.replicate x.length (-1)) 131072)) ∧ g = ⟨0, resV [.agg (.cons (.roI W') (.cons (.roI C') .nil)), .int .i64 e], []⟩ := by
  have hV := validB_iff.1 hob
  refine fgd_of htb (fn := Try.f24) (nf := 36) (by kernel_rfl) (by kernel_rfl) rfl (Nat.le_of_ble_eq_true rfl) ⟨Try.f37, by kernel_rfl, by kernel_rfl, rfl⟩ solved1_ret solved1_pan fun hl0 => ?_
  simp only [lenP, mkL, lim] at hl0
  repeat' first
    | with_reducible first | refine awp_seq ?_ | refine awp_block ?_ | refine next_then ?_ | refine next_block ?_ | refine exit_then ?_ | refine ret_then ?_ | refine ret_block ?_ | refine exit_here ?_ | refine awp_exit ?_ | refine awp_ret ?_ | refine awp_skip ?_ | refine awp_label ?_ | refine next_noGoto ?_ | refine ret_noGoto ?_ | refine exit_noGoto ?_ | refine awp_scope ?_
    | ((with_reducible refine exit_past ?_ ?_); exact rfl)
    | ((with_reducible refine isCond ?_); refine awp_condO rfl ?_ ?_ <;> intro hb <;> (try simp only [zH] at hb))
    | ((with_reducible refine isRegS 1 ?_ ?_); (· exact rfl); (first | refine awp_textM htb hmz noSp (fun _ => false) rfl rfl ?_ | refine awp_drawM hmo htb hmz noSp (fun _ => false) rfl rfl (by kernel_rfl) ?_); intro m' e' l' ob h; simp only [zE0, zE1, zE2, zE3, zE4, zE5, evp, evx, ev1, evLoad, evStore, evBin, isBoolK, forall_const, z38, tb, Nat.reduceAdd, Nat.reduceSub, Nat.reduceMul, Nat.reduceEqDiff, Nat.reduceLeDiff, Nat.reduceLT, Nat.reduceBEq, Nat.reduceBNe, ↓reduceIte, reduceIte, svA] at h; obtain ⟨rfl, rfl, rfl, rfl⟩ := h; refine ⟨?_, ?_⟩)
    | ((with_reducible refine Ob.mk ?_); first | exact trivial | (intros; omega) | ((repeat' first | apply And.intro | (intro hg; have hg' := hg; try simp only [zH] at hg')) <;> first | (with_reducible exact True.intro) | assumption | omega | (simp only [zH]; omega)))
  refine awp_cut ([_]) ([_]) rfl rfl ?_
  refine awpL_text htb hmz noSp (fun _ => false) rfl rfl rfl ?_; intro m' e' l' ob h; simp only [zE0, zE1, zE2, zE3, zE4, zE5, evp, evx, ev1, evLoad, evStore, evBin, isBoolK, forall_const, z38, tb, Nat.reduceAdd, Nat.reduceSub, Nat.reduceMul, Nat.reduceEqDiff, Nat.reduceLeDiff, Nat.reduceLT, Nat.reduceBEq, Nat.reduceBNe, ↓reduceIte, reduceIte, svA] at h; obtain ⟨rfl, rfl, rfl, rfl⟩ := h; refine ⟨?_, next_then ?_⟩
  · first | ((with_reducible refine Ob.mk ?_); first | exact trivial | (intros; omega) | ((repeat' first | apply And.intro | (intro hg; have hg' := hg; try simp only [zH] at hg')) <;> first | (with_reducible exact True.intro) | assumption | omega | (simp only [zH]; omega))) | skip
  refine awpL_callG ([]) (solverOf_fg hob) rfl rfl rfl rfl rfl rfl rfl rfl rfl (by simp only [rinR, rhoC, zE0, zE1, zE2, zE3, zE4, zE5, evp, evx, ev1, evLoad, evStore, evBin, isBoolK, forall_const, z38, tb, Nat.reduceAdd, Nat.reduceSub, Nat.reduceMul, Nat.reduceEqDiff, Nat.reduceLeDiff, Nat.reduceLT, Nat.reduceBEq, Nat.reduceBNe, ↓reduceIte, reduceIte, svA]) ?_; intro gm gv gr hq m' e' l' h; simp only [GR.mk.injEq] at hq; obtain ⟨rfl, rfl, rfl⟩ := hq; simp only [rhoC, outR, renR, dels, zE0, zE1, zE2, zE3, zE4, zE5, evp, evx, ev1, evLoad, evStore, evBin, isBoolK, forall_const, z38, tb, Nat.reduceAdd, Nat.reduceSub, Nat.reduceMul, Nat.reduceEqDiff, Nat.reduceLeDiff, Nat.reduceLT, Nat.reduceBEq, Nat.reduceBNe, ↓reduceIte, reduceIte, svA] at h; obtain ⟨rfl, rfl, rfl⟩ := h; refine next_then ?_
  refine awpL_text htb hmz noSp (fun _ => false) rfl rfl rfl ?_; intro m' e' l' ob h; simp only [zE0, zE1, zE2, zE3, zE4, zE5, evp, evx, ev1, evLoad, evStore, evBin, isBoolK, forall_const, z38, tb, Nat.reduceAdd, Nat.reduceSub, Nat.reduceMul, Nat.reduceEqDiff, Nat.reduceLeDiff, Nat.reduceLT, Nat.reduceBEq, Nat.reduceBNe, ↓reduceIte, reduceIte, svA] at h; obtain ⟨rfl, rfl, rfl, rfl⟩ := h; refine ⟨?_, ?_⟩
  · first | ((with_reducible refine Ob.mk ?_); first | exact trivial | (intros; omega) | ((repeat' first | apply And.intro | (intro hg; have hg' := hg; try simp only [zH] at hg')) <;> first | (with_reducible exact True.intro) | assumption | omega | (simp only [zH]; omega))) | skip
  refine next_then (awp_seq ?_)
  refine awp_defer2 (f := 36) ⟨rfl, rfl, rfl⟩ ⟨rfl, rfl, rfl⟩ rfl rfl rfl rfl (next_then (awp_seq ?_))
  refine awp_cut ([_, _]) ([]) rfl rfl ?_
  refine awpL_text htb hmz noSp (fun _ => false) rfl rfl rfl ?_; intro m' e' l' ob h; simp only [zE0, zE1, zE2, zE3, zE4, zE5, evp, evx, ev1, evLoad, evStore, evBin, isBoolK, forall_const, z38, tb, Nat.reduceAdd, Nat.reduceSub, Nat.reduceMul, Nat.reduceEqDiff, Nat.reduceLeDiff, Nat.reduceLT, Nat.reduceBEq, Nat.reduceBNe, ↓reduceIte, reduceIte, svA] at h; obtain ⟨rfl, rfl, rfl, rfl⟩ := h; refine ⟨?_, next_then ?_⟩
  · first | ((with_reducible refine Ob.mk ?_); first | exact trivial | (intros; omega) | ((repeat' first | apply And.intro | (intro hg; have hg' := hg; try simp only [zH] at hg')) <;> first | (with_reducible exact True.intro) | assumption | omega | (simp only [zH]; omega))) | skip
  refine awpL_callP ([4, 5, 6]) (solve_fp hV hs) rfl rfl rfl rfl rfl rfl rfl rfl rfl (by simp only [rinR, rhoC, zE0, zE1, zE2, zE3, zE4, zE5, evp, evx, ev1, evLoad, evStore, evBin, isBoolK, forall_const, z38, tb, Nat.reduceAdd, Nat.reduceSub, Nat.reduceMul, Nat.reduceEqDiff, Nat.reduceLeDiff, Nat.reduceLT, Nat.reduceBEq, Nat.reduceBNe, ↓reduceIte, reduceIte, svA]) ?_ ?pan1; intro gm gv gr hq m' e' l' h; obtain ⟨W', C', l', hZ, hq⟩ := hq; simp only [GR.mk.injEq] at hq; obtain ⟨rfl, rfl, rfl⟩ := hq; simp only [rhoC, outR, renR, dels, zE0, zE1, zE2, zE3, zE4, zE5, evp, evx, ev1, evLoad, evStore, evBin, isBoolK, forall_const, z38, tb, Nat.reduceAdd, Nat.reduceSub, Nat.reduceMul, Nat.reduceEqDiff, Nat.reduceLeDiff, Nat.reduceLT, Nat.reduceBEq, Nat.reduceBNe, ↓reduceIte, reduceIte, svA] at h; obtain ⟨rfl, rfl, rfl⟩ := h; refine next_then ?_
  case pan1 =>
    rintro c ⟨hc1, hc2⟩
    repeat' first | with_reducible refine pan_then ?_ | with_reducible refine pan_block ?_ | with_reducible refine pan_noGoto ?_
    refine ⟨hc1, _, _, 8, 1, 2, rfl, rfl, rfl, rfl, rfl, by decide, Nat.zero_le _, fun m => rfl, gq_of ⟨0, resV [.agg (.cons (.roI []) (.cons (.roI []) .nil)), .int .i64 3], []⟩ [] ⟨[], [], 3, .inr ⟨rfl, rfl, rfl, hc2⟩, rfl⟩ rfl ?_ trivial⟩
    exact imp_tup (imp_cons (imp_agg (imp_cons imp_nilI (imp_cons imp_nilI (imp_eq rfl)))) (imp_eq rfl))
  refine awpL_nil (next_then (awp_seq ?_))
  refine awp_fzN 5 (.roI W') (by simp only [lkr_cons, lkr_nil, fzE, fzA, fzR, fzB, set1, nbeq, Nat.reduceEqDiff, decide_true, decide_false, ↓reduceIte, reduceIte, cond_true, cond_false, List.take_length, Option.some.injEq]; rfl) (by first | exact rfl | (refine ⟨?_, rfl⟩; first | rfl | (intros; rfl))) (by simp only [lkr_cons, lkr_nil, fzE, fzA, fzR, fzB, set1, nbeq, Nat.reduceEqDiff, decide_true, decide_false, ↓reduceIte, reduceIte, cond_true, cond_false, List.take_length, Option.some.injEq]; rfl) (by simp only [lkr_cons, lkr_nil, fzE, fzA, fzR, fzB, set1, nbeq, Nat.reduceEqDiff, decide_true, decide_false, ↓reduceIte, reduceIte, cond_true, cond_false, List.take_length, Option.some.injEq]; rfl) ?_
  refine awp_fzN 6 (.roI C') (by simp only [lkr_cons, lkr_nil, fzE, fzA, fzR, fzB, set1, nbeq, Nat.reduceEqDiff, decide_true, decide_false, ↓reduceIte, reduceIte, cond_true, cond_false, List.take_length, Option.some.injEq]; rfl) (by first | exact rfl | (refine ⟨?_, rfl⟩; first | rfl | (intros; rfl))) (by simp only [lkr_cons, lkr_nil, fzE, fzA, fzR, fzB, set1, nbeq, Nat.reduceEqDiff, decide_true, decide_false, ↓reduceIte, reduceIte, cond_true, cond_false, List.take_length, Option.some.injEq]; rfl) (by simp only [lkr_cons, lkr_nil, fzE, fzA, fzR, fzB, set1, nbeq, Nat.reduceEqDiff, decide_true, decide_false, ↓reduceIte, reduceIte, cond_true, cond_false, List.take_length, Option.some.injEq]; rfl) ?_
  repeat' first
    | with_reducible first | refine awp_seq ?_ | refine awp_block ?_ | refine next_then ?_ | refine next_block ?_ | refine exit_then ?_ | refine ret_then ?_ | refine ret_block ?_ | refine exit_here ?_ | refine awp_exit ?_ | refine awp_ret ?_ | refine awp_skip ?_ | refine awp_label ?_ | refine next_noGoto ?_ | refine ret_noGoto ?_ | refine exit_noGoto ?_ | refine awp_scope ?_
    | ((with_reducible refine exit_past ?_ ?_); exact rfl)
    | ((with_reducible refine isCond ?_); refine awp_condO rfl ?_ ?_ <;> intro hb <;> (try simp only [zH] at hb))
    | ((with_reducible refine isReg ?_); (first | refine awp_textM htb hmz noSp (fun _ => false) rfl rfl ?_ | refine awp_drawM hmo htb hmz noSp (fun _ => false) rfl rfl (by kernel_rfl) ?_); intro m' e' l' ob h; simp only [zE0, zE1, zE2, zE3, zE4, zE5, evp, evx, ev1, evLoad, evStore, evBin, isBoolK, forall_const, z38, tb, Nat.reduceAdd, Nat.reduceSub, Nat.reduceMul, Nat.reduceEqDiff, Nat.reduceLeDiff, Nat.reduceLT, Nat.reduceBEq, Nat.reduceBNe, ↓reduceIte, reduceIte, svA] at h; obtain ⟨rfl, rfl, rfl, rfl⟩ := h; refine ⟨?_, ?_⟩)
    | ((with_reducible refine Ob.mk ?_); first | exact trivial | (intros; omega) | ((repeat' first | apply And.intro | (intro hg; have hg' := hg; try simp only [zH] at hg')) <;> first | assumption | omega | (simp only [zH]; omega)))
  trace_state
  refine ⟨_, _, 8, 1, 2, rfl, rfl, rfl, rfl, Nat.zero_le _, gq_of ⟨0, resV [.agg (.cons (.roI W') (.cons (.roI C') .nil)), .int .i64 0], []⟩ [] ⟨W', C', 0, .inl ⟨rfl, l', hZ⟩, rfl⟩ rfl (imp_eq rfl) trivial⟩
end Go.Proofs.Ytlckljphakkomaa.Cal
