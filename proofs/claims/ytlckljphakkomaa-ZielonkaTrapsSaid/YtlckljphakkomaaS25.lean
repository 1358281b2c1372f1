/- Own texts of the proof, merged, in order. -/
import Derived.Test.YtlckljphakkomaaS24
set_option linter.unusedVariables false
set_option linter.unusedSimpArgs false
namespace Go.Proofs.Ytlckljphakkomaa.Cal
open Go Pl
/-- What Part answers. -/
def zpP (g : Gm) (k : List Bool) (W C : List Int) (e : Int) : Prop := (validB g = false ∧ e = 1 ∧ W = [] ∧ C = []) ∨ (validB g = true ∧ ((k.length ≠ g.own.length ∧ e = 2 ∧ W = [] ∧ C = []) ∨ (k.length = g.own.length ∧ (((kp k g.own.length = [] ∨ ∃ v, v ∈ kp k g.own.length ∧ ptr g.nxt k v = []) ∧ e = 4 ∧ W = [] ∧ C = []) ∨
  (¬ (kp k g.own.length = [] ∨ ∃ v, v ∈ kp k g.own.length ∧ ptr g.nxt k v = []) ∧ ((e = 0 ∧ W.length = k.length ∧ C.length = k.length ∧ ZS2 g k (List.replicate g.own.length (-1)) (List.replicate g.own.length (-1)) W C) ∨ (e = 3 ∧ W = [] ∧ C = [] ∧ 16 < (partG g k).own.length ∧ ¬ ∃ a b, ∀ v, v < (partG g k).own.length → (partG g k).pri.getD v 0 = a ∨ (partG g k).pri.getD v 0 = b)))))))
theorem sm_neg {x : List (List Int)} {k : List Bool} {v : Nat} (hr : ∀ t, t ∈ x.getD v [] → 0 ≤ t) : smF k (x.getD v []) < 0 ↔ ptr x k v = [] := by
  constructor
  · intro h
    cases e : ptr x k v with
    | nil => rfl
    | cons a l =>
      exfalso
      have ha : a ∈ ptr x k v := by rw [e]; exact List.mem_cons_self
      unfold ptr at ha
      obtain ⟨s, h1, _⟩ := List.mem_map.1 ha
      obtain ⟨h2, h3⟩ := List.mem_filter.1 h1
      have := hr _ (smF_in ⟨s, h2, h3⟩).1
      omega
  · intro h
    rw [smF_none fun i hi => ?_]
    · decide
    · cases e : k.getD ((x.getD v []).getD i 0).toNat false with
      | false => rfl
      | true =>
        exfalso
        have : nmF k ((x.getD v []).getD i 0).toNat ∈ ptr x k v := List.mem_map.2 ⟨_, List.mem_filter.2 ⟨getD_mem hi, e⟩, rfl⟩
        rw [h] at this
        exact List.not_mem_nil this
structure PtS where
  i : Nat
  e : Int
  a : Bool
noncomputable def spZp : Nat → Option Spec
  | 23 => some validS
  | 32 => some membersS
  | _ => none
theorem spZp_ok : SpOK Try.prog spZp := by
  intro f S h
  unfold spZp at h
  split at h
  · cases h; exact valid_ok
  · cases h; exact members_ok
  · cases h
set_option maxRecDepth 4000 in
set_option maxHeartbeats 4000000 in
theorem zpart_fg {o p : List Int} {x : List (List Int)} {k : List Bool} :
    FG Try.prog 17 [.agg (.cons (.roI o) (.cons (.roI p) (.cons (.roII x) .nil))), .roB k] [] 0 fun g => ∃ (W' C' : List Int) (e : Int), zpP ⟨o, p, x⟩ k W' C' e ∧ g = ⟨0, resV [.agg (.cons (.roI W') (.cons (.roI C') .nil)), .int .i64 e], []⟩ := by
  refine fg_of htb (fn := Try.f17) (by kernel_rfl) (by kernel_rfl) rfl (Nat.le_of_ble_eq_true rfl) fun hl => ?_
  simp only [lenP, mkL, lim] at hl
  repeat' first
    | with_reducible first | refine awp_seq ?_ | refine awp_block ?_ | refine next_then ?_ | refine next_block ?_ | refine exit_then ?_ | refine ret_then ?_ | refine ret_block ?_ | refine exit_here ?_ | refine awp_exit ?_ | refine awp_ret ?_ | refine awp_skip ?_ | refine awp_label ?_ | refine next_noGoto ?_ | refine ret_noGoto ?_ | refine exit_noGoto ?_ | refine awp_scope ?_
    | ((with_reducible refine exit_past ?_ ?_); exact rfl)
    | ((with_reducible refine isCond ?_); refine awp_condO rfl ?_ ?_ <;> intro hb <;> (try simp only [zH] at hb))
    | ((with_reducible refine isRegS 5 ?_ ?_); (· exact rfl); (first | refine awp_textM htb hmz spZp_ok (fun _ => false) rfl rfl ?_ | refine awp_drawM hmo htb hmz spZp_ok (fun _ => false) rfl rfl (by kernel_rfl) ?_); intro m' e' l' ob h; simp only [zE0, zE1, zE2, zE3, zE4, zE5, evp, evx, ev1, evLoad, evStore, evBin, isBoolK, forall_const, z38, tb, Nat.reduceAdd, Nat.reduceSub, Nat.reduceMul, Nat.reduceEqDiff, Nat.reduceLeDiff, Nat.reduceLT, Nat.reduceBEq, Nat.reduceBNe, ↓reduceIte, reduceIte, spZp, validS, membersS, svA, nilR] at h; obtain ⟨rfl, rfl, rfl, rfl⟩ := h; refine ⟨?_, ?_⟩)
    | ((with_reducible refine Ob.mk ?_); first | exact trivial | (intros; omega) | ((repeat' first | apply And.intro | (intro hg; have hg' := hg; try simp only [zH] at hg')) <;> first | (with_reducible exact True.intro) | assumption | omega | (simp only [zH]; omega)))
  · have hv : validB ⟨o, p, x⟩ = false := by cases h : validB ⟨o, p, x⟩ with | false => rfl | true => rw [h] at hb; cases hb
    refine fin_ret rfl rfl (gq_of ⟨0, resV [.agg (.cons (.roI []) (.cons (.roI []) .nil)), .int .i64 1], []⟩ [] ⟨[], [], 1, .inl ⟨hv, rfl, rfl, rfl⟩, rfl⟩ rfl ?_ trivial)
    exact imp_tup (imp_cons (imp_agg (imp_cons imp_nilI (imp_cons imp_nilI (imp_eq rfl)))) (imp_eq rfl))
  · rename_i hv
    refine fin_ret rfl rfl (gq_of ⟨0, resV [.agg (.cons (.roI []) (.cons (.roI []) .nil)), .int .i64 2], []⟩ [] ⟨[], [], 2, .inr ⟨hv, .inl ⟨fun h => hb (by rw [show k.length = o.length from h]), rfl, rfl, rfl⟩⟩, rfl⟩ rfl ?_ trivial)
    exact imp_tup (imp_cons (imp_agg (imp_cons imp_nilI (imp_cons imp_nilI (imp_eq rfl)))) (imp_eq rfl))
  rename_i hv
  have hkl : k.length = o.length := by omega
  have hV := validB_iff.1 hv
  obtain ⟨hn, hpl, hxl, hpos⟩ := id hV
  simp only [Gm.n] at hn hpl hxl
  refine awp_cut ([_]) ([_, _]) rfl rfl ?_
  refine awpL_text htb hmz spZp_ok (fun _ => false) rfl rfl rfl ?_; intro m' e' l' ob h; simp only [zE0, zE1, zE2, zE3, zE4, zE5, evp, evx, ev1, evLoad, evStore, evBin, isBoolK, forall_const, z38, tb, Nat.reduceAdd, Nat.reduceSub, Nat.reduceMul, Nat.reduceEqDiff, Nat.reduceLeDiff, Nat.reduceLT, Nat.reduceBEq, Nat.reduceBNe, ↓reduceIte, reduceIte, spZp, validS, membersS, svA, nilR] at h; obtain ⟨rfl, rfl, rfl, rfl⟩ := h; refine ⟨?_, next_then ?_⟩
  · first | ((with_reducible refine Ob.mk ?_); first | exact trivial | (intros; omega) | ((repeat' first | apply And.intro | (intro hg; have hg' := hg; try simp only [zH] at hg')) <;> first | (with_reducible exact True.intro) | assumption | omega | (simp only [zH]; omega))) | skip
  refine awpL_callG ([]) (solverOf_fg hv) rfl rfl rfl rfl rfl rfl rfl rfl rfl (by simp only [rinR, rhoC, zE0, zE1, zE2, zE3, zE4, zE5, evp, evx, ev1, evLoad, evStore, evBin, isBoolK, forall_const, z38, tb, Nat.reduceAdd, Nat.reduceSub, Nat.reduceMul, Nat.reduceEqDiff, Nat.reduceLeDiff, Nat.reduceLT, Nat.reduceBEq, Nat.reduceBNe, ↓reduceIte, reduceIte, spZp, validS, membersS, svA, nilR]) ?_; intro gm gv gr hq m' e' l' h; simp only [GR.mk.injEq] at hq; obtain ⟨rfl, rfl, rfl⟩ := hq; simp only [rhoC, outR, renR, dels, zE0, zE1, zE2, zE3, zE4, zE5, evp, evx, ev1, evLoad, evStore, evBin, isBoolK, forall_const, z38, tb, Nat.reduceAdd, Nat.reduceSub, Nat.reduceMul, Nat.reduceEqDiff, Nat.reduceLeDiff, Nat.reduceLT, Nat.reduceBEq, Nat.reduceBNe, ↓reduceIte, reduceIte, spZp, validS, membersS, svA, nilR] at h; obtain ⟨rfl, rfl, rfl⟩ := h; refine next_then ?_
  refine awpL_text htb hmz spZp_ok (fun _ => false) rfl rfl rfl ?_; intro m' e' l' ob h; simp only [zE0, zE1, zE2, zE3, zE4, zE5, evp, evx, ev1, evLoad, evStore, evBin, isBoolK, forall_const, z38, tb, Nat.reduceAdd, Nat.reduceSub, Nat.reduceMul, Nat.reduceEqDiff, Nat.reduceLeDiff, Nat.reduceLT, Nat.reduceBEq, Nat.reduceBNe, ↓reduceIte, reduceIte, spZp, validS, membersS, svA, nilR] at h; obtain ⟨rfl, rfl, rfl, rfl⟩ := h; refine ⟨?_, ?_⟩
  · first | ((with_reducible refine Ob.mk ?_); first | exact trivial | (intros; omega) | ((repeat' first | apply And.intro | (intro hg; have hg' := hg; try simp only [zH] at hg')) <;> first | (with_reducible exact True.intro) | assumption | omega | (simp only [zH]; omega))) | skip
  refine next_then (awp_seq ?_)
  repeat' first
    | with_reducible first | refine awp_seq ?_ | refine awp_block ?_ | refine next_then ?_ | refine next_block ?_ | refine exit_then ?_ | refine ret_then ?_ | refine ret_block ?_ | refine exit_here ?_ | refine awp_exit ?_ | refine awp_ret ?_ | refine awp_skip ?_ | refine awp_label ?_ | refine next_noGoto ?_ | refine ret_noGoto ?_ | refine exit_noGoto ?_ | refine awp_scope ?_
    | ((with_reducible refine exit_past ?_ ?_); exact rfl)
    | ((with_reducible refine isCond ?_); refine awp_condO rfl ?_ ?_ <;> intro hb <;> (try simp only [zH] at hb))
    | ((with_reducible refine isReg ?_); (first | refine awp_textM htb hmz spZp_ok (fun _ => false) rfl rfl ?_ | refine awp_drawM hmo htb hmz spZp_ok (fun _ => false) rfl rfl (by kernel_rfl) ?_); intro m' e' l' ob h; simp only [zE0, zE1, zE2, zE3, zE4, zE5, evp, evx, ev1, evLoad, evStore, evBin, isBoolK, forall_const, z38, tb, Nat.reduceAdd, Nat.reduceSub, Nat.reduceMul, Nat.reduceEqDiff, Nat.reduceLeDiff, Nat.reduceLT, Nat.reduceBEq, Nat.reduceBNe, ↓reduceIte, reduceIte, spZp, validS, membersS, svA, nilR] at h; obtain ⟨rfl, rfl, rfl, rfl⟩ := h; refine ⟨?_, ?_⟩)
    | ((with_reducible refine Ob.mk ?_); first | exact trivial | (intros; omega) | ((repeat' first | apply And.intro | (intro hg; have hg' := hg; try simp only [zH] at hg')) <;> first | (with_reducible exact True.intro) | assumption | omega | (simp only [zH]; omega)))
  have hrow : ∀ v, v < o.length → (x.getD v []).length ≤ 64 ∧ ∀ j, j < (x.getD v []).length → 0 ≤ (x.getD v []).getD j 0 ∧ (x.getD v []).getD j 0 < (k.length : Int) := fun v hv => by
    obtain ⟨⟨_, _, _, _, _, a6⟩, hr⟩ := hpos v hv
    exact ⟨a6, fun j hj => by have := hr j hj; simp only [Gm.x, Gm.n] at this; rw [hkl]; exact ⟨this.1, this.2.1⟩⟩
  have hr0 : ∀ v, v < o.length → ∀ t, t ∈ x.getD v [] → 0 ≤ t := fun v hv t ht => by
    obtain ⟨j, hj, rfl⟩ := mem_ix ht
    exact ((hrow v hv).2 j hj).1
  refine awp_leC ⟨23, [(23, .fn 41 (.cons (.rop (.roB k)) .nil)), (7, .own 19), (6, .own 17), (5, .own 3), (4, .own 2), (3, .rop (.roB k)), (2, .rop (.agg (.cons (.roI o) (.cons (.roI p) (.cons (.roII x) .nil)))))], [(14, some (.box (svA o p x (backL x) 131072 15 16))), (15, some (.ints (List.replicate x.length (-1)))), (16, some (.ints (List.replicate x.length (-1)))), (2, some (.box nilR)), (3, some (.box (.int .i64 0))), (17, some (.box (.own 14))), (19, some (.box (.bool false)))], []⟩ [] ?_ ?_
  · (refine ⟨rfl, ?_, ?_⟩ <;> simp only [zE0, zE1, zE2, zE3, zE4, zE5, evp, evx, ev1, evLoad, evStore, evBin, isBoolK, forall_const, z38, tb, Nat.reduceAdd, Nat.reduceSub, Nat.reduceMul, Nat.reduceEqDiff, Nat.reduceLeDiff, Nat.reduceLT, Nat.reduceBEq, Nat.reduceBNe, ↓reduceIte, reduceIte, spZp, validS, membersS, svA, nilR, zI])
  refine awp_rangeV (m := 23) (M := 23) (fun t : PtS => t.i ≤ (kp k k.length).length ∧ t.e = 0 ∧ t.a = decide (0 < t.i) ∧ ∀ j, j < t.i → ptr x k ((kp k k.length).getD j 0) ≠ []) (fun t => t.e = 4 ∧ ∃ v, v ∈ kp k k.length ∧ ptr x k v = []) (fun t => (((kp k k.length).getD t.i 0 : Nat) : Int)) (fun t => t.i < (kp k k.length).length) (fun t t' => t'.i = t.i + 1) (fun t => t.i = 0) (fun t => t.i = (kp k k.length).length) .ret
    (fun t => [(14, some (.box (svA o p x (backL x) 131072 15 16))), (15, some (.ints (List.replicate x.length (-1)))), (16, some (.ints (List.replicate x.length (-1)))), (2, some (.box nilR)), (3, some (.box (.int .i64 t.e))), (17, some (.box (.own 14))), (19, some (.box (.bool t.a)))]) [] ⟨0, 0, false⟩ (members1_iter k _ _ (fun t : PtS => t.i) fun (t : PtS) h => h.1) ⟨Nat.zero_le _, rfl, rfl, fun j hj => absurd hj (Nat.not_lt_zero j)⟩ rfl rfl rfl rfl rfl rfl rfl (fun k hk => by cases hk)
    (fun t j B _ hk => sV_mem (M := 23) (l := [(14, some (.box (svA o p x (backL x) 131072 15 16))), (15, some (.ints (List.replicate x.length (-1)))), (16, some (.ints (List.replicate x.length (-1)))), (2, some (.box nilR)), (3, some (.box (.int .i64 t.e))), (17, some (.box (.own 14))), (19, some (.box (.bool t.a)))]) ⟨⟨rfl, rfl⟩, ⟨rfl, trivial⟩, ⟨rfl, trivial⟩, ⟨rfl, rfl⟩, ⟨rfl, rfl⟩, ⟨rfl, rfl⟩, ⟨rfl, rfl⟩, trivial⟩ j B hk) ?_ ?_ ?_
  · rintro lp ⟨i, e, a⟩ ⟨hi, he, ha, hne⟩ hg
    replace ha : a = decide (0 < i) := ha
    dsimp only at hi he hne hg ⊢
    subst he
    subst ha
    obtain ⟨hv1, hv2⟩ := kp_at' hg
    have hmem : (kp k k.length).getD i 0 ∈ kp k k.length := by rw [List.getD_eq_getElem?_getD, List.getElem?_eq_getElem hg]; exact List.getElem_mem hg
    generalize hvv : (kp k k.length).getD i 0 = v at *
    have hvo : v < o.length := by omega
    have hsm := sm_neg (k := k) (hr0 v hvo)
    first | (refine awp_textM htb hmz spZp_ok (fun _ => false) rfl rfl ?_; intro m' e' l' ob h; simp only [zE0, zE1, zE2, zE3, zE4, zE5, evp, evx, ev1, evLoad, evStore, evBin, isBoolK, forall_const, z38, tb, Nat.reduceAdd, Nat.reduceSub, Nat.reduceMul, Nat.reduceEqDiff, Nat.reduceLeDiff, Nat.reduceLT, Nat.reduceBEq, Nat.reduceBNe, ↓reduceIte, reduceIte, spZp, validS, membersS, svA, nilR] at h; obtain ⟨rfl, rfl, rfl, rfl⟩ := h; refine ⟨?_, ?_⟩)
          | (refine awp_drawM hmo htb hmz spZp_ok (fun _ => false) rfl rfl (by kernel_rfl) ?_; intro m' e' l' ob h; simp only [zE0, zE1, zE2, zE3, zE4, zE5, evp, evx, ev1, evLoad, evStore, evBin, isBoolK, forall_const, z38, tb, Nat.reduceAdd, Nat.reduceSub, Nat.reduceMul, Nat.reduceEqDiff, Nat.reduceLeDiff, Nat.reduceLT, Nat.reduceBEq, Nat.reduceBNe, ↓reduceIte, reduceIte, spZp, validS, membersS, svA, nilR] at h; obtain ⟨rfl, rfl, rfl, rfl⟩ := h; refine ⟨?_, ?_⟩)
    · first | ((with_reducible refine Ob.mk ?_); first | exact trivial | (intros; omega) | ((repeat' first | apply And.intro | (intro hg; have hg' := hg; try simp only [zH] at hg')) <;> first | assumption | omega | (simp only [zH]; omega))) | skip
    refine ⟨rfl, ?_⟩
    repeat' first
      | with_reducible first | refine awp_seq ?_ | refine awp_block ?_ | refine next_then ?_ | refine next_block ?_ | refine exit_then ?_ | refine ret_then ?_ | refine ret_block ?_ | refine exit_here ?_ | refine awp_exit ?_ | refine awp_ret ?_ | refine awp_skip ?_ | refine awp_label ?_ | refine next_noGoto ?_ | refine ret_noGoto ?_ | refine exit_noGoto ?_ | refine awp_scope ?_
      | ((with_reducible refine exit_past ?_ ?_); exact rfl)
      | ((with_reducible refine isCond ?_); refine awp_condO rfl ?_ ?_ <;> intro hb <;> (try simp only [zH] at hb))
      | ((with_reducible refine isRegS 10 ?_ ?_); (· exact rfl); (first | refine awp_textM htb hmz spZp_ok (fun _ => false) rfl rfl ?_ | refine awp_drawM hmo htb hmz spZp_ok (fun _ => false) rfl rfl (by kernel_rfl) ?_); intro m' e' l' ob h; simp only [zE0, zE1, zE2, zE3, zE4, zE5, evp, evx, ev1, evLoad, evStore, evBin, isBoolK, forall_const, z38, tb, Nat.reduceAdd, Nat.reduceSub, Nat.reduceMul, Nat.reduceEqDiff, Nat.reduceLeDiff, Nat.reduceLT, Nat.reduceBEq, Nat.reduceBNe, ↓reduceIte, reduceIte, spZp, validS, membersS, svA, nilR] at h; obtain ⟨rfl, rfl, rfl, rfl⟩ := h; refine ⟨?_, ?_⟩)
      | ((with_reducible refine Ob.mk ?_); first | exact trivial | (intros; omega) | ((repeat' first | apply And.intro | (intro hg; have hg' := hg; try simp only [zH] at hg')) <;> first | assumption | omega | (simp only [zH]; omega)))
    refine awp_cut ([_, _, _]) ([_]) rfl rfl ?_
    refine awpL_text htb hmz spZp_ok (fun _ => false) rfl rfl rfl ?_; intro m' e' l' ob h; simp only [zE0, zE1, zE2, zE3, zE4, zE5, evp, evx, ev1, evLoad, evStore, evBin, isBoolK, forall_const, z38, tb, Nat.reduceAdd, Nat.reduceSub, Nat.reduceMul, Nat.reduceEqDiff, Nat.reduceLeDiff, Nat.reduceLT, Nat.reduceBEq, Nat.reduceBNe, ↓reduceIte, reduceIte, spZp, validS, membersS, svA, nilR] at h; obtain ⟨rfl, rfl, rfl, rfl⟩ := h; refine ⟨?_, next_then ?_⟩
    · first | ((with_reducible refine Ob.mk ?_); first | exact trivial | (intros; omega) | ((repeat' first | apply And.intro | (intro hg; have hg' := hg; try simp only [zH] at hg')) <;> first | (with_reducible exact True.intro) | assumption | omega | (simp only [zH]; omega))) | skip
    refine awpL_callG ([14, 15, 16]) (some_fg (o := o) (p := p) (x := x) (B := backL x) (left := 131072) (W := List.replicate x.length (-1)) (C := List.replicate x.length (-1)) (l := k) (v := v) (by omega) (hrow v hvo).2 (hrow v hvo).1) rfl rfl rfl rfl rfl rfl rfl rfl rfl (by simp only [rinR, rhoC, zE0, zE1, zE2, zE3, zE4, zE5, evp, evx, ev1, evLoad, evStore, evBin, isBoolK, forall_const, z38, tb, Nat.reduceAdd, Nat.reduceSub, Nat.reduceMul, Nat.reduceEqDiff, Nat.reduceLeDiff, Nat.reduceLT, Nat.reduceBEq, Nat.reduceBNe, ↓reduceIte, reduceIte, spZp, validS, membersS, svA, nilR]) ?_; intro gm gv gr hq m' e' l' h; simp only [GR.mk.injEq] at hq; obtain ⟨rfl, rfl, rfl⟩ := hq; simp only [rhoC, outR, renR, dels, zE0, zE1, zE2, zE3, zE4, zE5, evp, evx, ev1, evLoad, evStore, evBin, isBoolK, forall_const, z38, tb, Nat.reduceAdd, Nat.reduceSub, Nat.reduceMul, Nat.reduceEqDiff, Nat.reduceLeDiff, Nat.reduceLT, Nat.reduceBEq, Nat.reduceBNe, ↓reduceIte, reduceIte, spZp, validS, membersS, svA, nilR] at h; obtain ⟨rfl, rfl, rfl⟩ := h; refine next_then ?_
    refine awpL_text htb hmz spZp_ok (fun _ => false) rfl rfl rfl ?_; intro m' e' l' ob h; simp only [zE0, zE1, zE2, zE3, zE4, zE5, evp, evx, ev1, evLoad, evStore, evBin, isBoolK, forall_const, z38, tb, Nat.reduceAdd, Nat.reduceSub, Nat.reduceMul, Nat.reduceEqDiff, Nat.reduceLeDiff, Nat.reduceLT, Nat.reduceBEq, Nat.reduceBNe, ↓reduceIte, reduceIte, spZp, validS, membersS, svA, nilR] at h; obtain ⟨rfl, rfl, rfl, rfl⟩ := h; refine ⟨?_, ?_⟩
    · first | ((with_reducible refine Ob.mk ?_); first | exact trivial | (intros; omega) | ((repeat' first | apply And.intro | (intro hg; have hg' := hg; try simp only [zH] at hg')) <;> first | (with_reducible exact True.intro) | assumption | omega | (simp only [zH]; omega))) | skip
    refine next_then ?_
    repeat' first
      | with_reducible first | refine awp_seq ?_ | refine awp_block ?_ | refine next_then ?_ | refine next_block ?_ | refine exit_then ?_ | refine ret_then ?_ | refine ret_block ?_ | refine exit_here ?_ | refine awp_exit ?_ | refine awp_ret ?_ | refine awp_skip ?_ | refine awp_label ?_ | refine next_noGoto ?_ | refine ret_noGoto ?_ | refine exit_noGoto ?_ | refine awp_scope ?_
      | ((with_reducible refine exit_past ?_ ?_); exact rfl)
      | ((with_reducible refine isCond ?_); refine awp_condO rfl ?_ ?_ <;> intro hb <;> (try simp only [zH] at hb))
      | ((with_reducible refine isReg ?_); (first | refine awp_textM htb hmz spZp_ok (fun _ => false) rfl rfl ?_ | refine awp_drawM hmo htb hmz spZp_ok (fun _ => false) rfl rfl (by kernel_rfl) ?_); intro m' e' l' ob h; simp only [zE0, zE1, zE2, zE3, zE4, zE5, evp, evx, ev1, evLoad, evStore, evBin, isBoolK, forall_const, z38, tb, Nat.reduceAdd, Nat.reduceSub, Nat.reduceMul, Nat.reduceEqDiff, Nat.reduceLeDiff, Nat.reduceLT, Nat.reduceBEq, Nat.reduceBNe, ↓reduceIte, reduceIte, spZp, validS, membersS, svA, nilR] at h; obtain ⟨rfl, rfl, rfl, rfl⟩ := h; refine ⟨?_, ?_⟩)
      | ((with_reducible refine Ob.mk ?_); first | exact trivial | (intros; omega) | ((repeat' first | apply And.intro | (intro hg; have hg' := hg; try simp only [zH] at hg')) <;> first | (with_reducible exact True.intro) | assumption | omega | (simp only [zH]; omega)))
    · refine ⟨_, ⟨i, 4, true⟩, [], rfl, ?_, .inr ⟨rfl, rfl, v, hmem, hsm.1 hb⟩⟩
      (refine ⟨rfl, ?_, ?_⟩ <;> simp only [zE0, zE1, zE2, zE3, zE4, zE5, evp, evx, ev1, evLoad, evStore, evBin, isBoolK, forall_const, z38, tb, Nat.reduceAdd, Nat.reduceSub, Nat.reduceMul, Nat.reduceEqDiff, Nat.reduceLeDiff, Nat.reduceLT, Nat.reduceBEq, Nat.reduceBNe, ↓reduceIte, reduceIte, spZp, validS, membersS, svA, nilR, zI])
    · refine ⟨_, ⟨i + 1, 0, true⟩, [], rfl, ?_, .inl ⟨rfl, ⟨hg, rfl, by simp, fun j hj => ?_⟩, rfl⟩⟩
      · (refine ⟨rfl, ?_, ?_⟩ <;> simp only [zE0, zE1, zE2, zE3, zE4, zE5, evp, evx, ev1, evLoad, evStore, evBin, isBoolK, forall_const, z38, tb, Nat.reduceAdd, Nat.reduceSub, Nat.reduceMul, Nat.reduceEqDiff, Nat.reduceLeDiff, Nat.reduceLT, Nat.reduceBEq, Nat.reduceBNe, ↓reduceIte, reduceIte, spZp, validS, membersS, svA, nilR, zI])
      · rcases Nat.lt_succ_iff_lt_or_eq.1 hj with h | rfl
        · exact hne j h
        · rw [hvv]
          exact fun h => absurd (hsm.2 h) (by omega)
  · rintro ⟨i, e, a⟩ ⟨hi, he, ha, hne⟩ hfin
    replace ha : a = decide (0 < i) := ha
    dsimp only at hi he hne hfin ⊢
    subst he
    subst ha
    subst hfin
    have hall : ∀ v, v ∈ kp k k.length → ptr x k v ≠ [] := fun v hv => by
      obtain ⟨j, hj, rfl⟩ := List.getElem_of_mem hv
      have := hne j hj
      rwa [List.getD_eq_getElem?_getD, List.getElem?_eq_getElem hj] at this
    repeat' first
      | with_reducible first | refine awp_seq ?_ | refine awp_block ?_ | refine next_then ?_ | refine next_block ?_ | refine exit_then ?_ | refine ret_then ?_ | refine ret_block ?_ | refine exit_here ?_ | refine awp_exit ?_ | refine awp_ret ?_ | refine awp_skip ?_ | refine awp_label ?_ | refine next_noGoto ?_ | refine ret_noGoto ?_ | refine exit_noGoto ?_ | refine awp_scope ?_
      | ((with_reducible refine exit_past ?_ ?_); exact rfl)
      | ((with_reducible refine isCond ?_); refine awp_condO rfl ?_ ?_ <;> intro hb <;> (try simp only [zH] at hb))
      | ((with_reducible refine isRegS 13 ?_ ?_); (· exact rfl); (with_reducible refine isRegS 14 ?_ ?_); (· exact rfl); (first | refine awp_textM htb hmz spZp_ok (fun _ => false) rfl rfl ?_ | refine awp_drawM hmo htb hmz spZp_ok (fun _ => false) rfl rfl (by kernel_rfl) ?_); intro m' e' l' ob h; simp only [zE0, zE1, zE2, zE3, zE4, zE5, evp, evx, ev1, evLoad, evStore, evBin, isBoolK, forall_const, z38, tb, Nat.reduceAdd, Nat.reduceSub, Nat.reduceMul, Nat.reduceEqDiff, Nat.reduceLeDiff, Nat.reduceLT, Nat.reduceBEq, Nat.reduceBNe, ↓reduceIte, reduceIte, spZp, validS, membersS, svA, nilR] at h; obtain ⟨rfl, rfl, rfl, rfl⟩ := h; refine ⟨?_, ?_⟩)
      | ((with_reducible refine Ob.mk ?_); first | exact trivial | (intros; omega) | ((repeat' first | apply And.intro | (intro hg; have hg' := hg; try simp only [zH] at hg')) <;> first | (with_reducible exact True.intro) | assumption | omega | (simp only [zH]; omega)))
    · have hk0 : kp k o.length = [] := by rw [← hkl]; exact List.length_eq_zero_iff.1 (by omega)
      repeat' first
        | with_reducible first | refine awp_seq ?_ | refine awp_block ?_ | refine next_then ?_ | refine next_block ?_ | refine exit_then ?_ | refine ret_then ?_ | refine ret_block ?_ | refine exit_here ?_ | refine awp_exit ?_ | refine awp_ret ?_ | refine awp_skip ?_ | refine awp_label ?_ | refine next_noGoto ?_ | refine ret_noGoto ?_ | refine exit_noGoto ?_ | refine awp_scope ?_
        | ((with_reducible refine exit_past ?_ ?_); exact rfl)
        | ((with_reducible refine isCond ?_); refine awp_condO rfl ?_ ?_ <;> intro hb <;> (try simp only [zH] at hb))
        | ((with_reducible refine isReg ?_); (first | refine awp_textM htb hmz spZp_ok (fun _ => false) rfl rfl ?_ | refine awp_drawM hmo htb hmz spZp_ok (fun _ => false) rfl rfl (by kernel_rfl) ?_); intro m' e' l' ob h; simp only [zE0, zE1, zE2, zE3, zE4, zE5, evp, evx, ev1, evLoad, evStore, evBin, isBoolK, forall_const, z38, tb, Nat.reduceAdd, Nat.reduceSub, Nat.reduceMul, Nat.reduceEqDiff, Nat.reduceLeDiff, Nat.reduceLT, Nat.reduceBEq, Nat.reduceBNe, ↓reduceIte, reduceIte, spZp, validS, membersS, svA, nilR] at h; obtain ⟨rfl, rfl, rfl, rfl⟩ := h; refine ⟨?_, ?_⟩)
        | ((with_reducible refine Ob.mk ?_); first | exact trivial | (intros; omega) | ((repeat' first | apply And.intro | (intro hg; have hg' := hg; try simp only [zH] at hg')) <;> first | (with_reducible exact True.intro) | assumption | omega | (simp only [zH]; omega)))
      refine ⟨_, _, rfl, rfl, fun k hk => by rw [List.mem_singleton.1 hk]; rfl, (by show List.Nodup [23]; decide), Nat.zero_le _, gq_of ⟨0, resV [.agg (.cons (.roI []) (.cons (.roI []) .nil)), .int .i64 4], []⟩ [] ⟨[], [], 4, .inr ⟨hv, .inr ⟨hkl, .inl ⟨.inl hk0, rfl, rfl, rfl⟩⟩⟩, rfl⟩ rfl ?_ trivial⟩
      exact imp_tup (imp_cons (imp_agg (imp_cons imp_nilI (imp_cons imp_nilI (imp_eq rfl)))) (imp_eq rfl))
    have hkne : ¬ (kp k o.length = [] ∨ ∃ v, v ∈ kp k o.length ∧ ptr x k v = []) := by
      rw [← hkl]
      rintro (h | ⟨v, h1, h2⟩)
      · rw [h] at hb
        simp at hb
      · exact hall v h1 h2
    have hT : ∀ u, k.getD u false = true → ∃ v, v ∈ sc x u ∧ k.getD v false = true := fun u hu => by
      have h1 := hall u ((kp_mem (Nat.le_refl _)).2 hu)
      obtain ⟨a, l, e⟩ := List.exists_cons_of_ne_nil h1
      have ha : a ∈ ptr x k u := by rw [e]; exact List.mem_cons_self
      unfold ptr at ha
      obtain ⟨s, h2, _⟩ := List.mem_map.1 ha
      obtain ⟨h3, h4⟩ := List.mem_filter.1 h2
      exact ⟨s.toNat, List.mem_map.2 ⟨s, h3, rfl⟩, h4⟩
    have hzi : ZI ⟨o, p, x⟩ ⟨k, List.replicate x.length (-1), List.replicate x.length (-1), 131072⟩ := ⟨hkl, by show (List.replicate x.length _).length = o.length; rw [List.length_replicate, hxl], by show (List.replicate x.length _).length = o.length; rw [List.length_replicate, hxl], by show (0 : Int) ≤ 131072; decide, by show (131072 : Int) ≤ 131072; decide, hT⟩
    refine awp_cut ([_, _]) ([_, _, _, _]) rfl rfl ?_
    refine awpL_text htb hmz spZp_ok (fun _ => false) rfl rfl rfl ?_; intro m' e' l' ob h; simp only [zE0, zE1, zE2, zE3, zE4, zE5, evp, evx, ev1, evLoad, evStore, evBin, isBoolK, forall_const, z38, tb, Nat.reduceAdd, Nat.reduceSub, Nat.reduceMul, Nat.reduceEqDiff, Nat.reduceLeDiff, Nat.reduceLT, Nat.reduceBEq, Nat.reduceBNe, ↓reduceIte, reduceIte, spZp, validS, membersS, svA, nilR] at h; obtain ⟨rfl, rfl, rfl, rfl⟩ := h; refine ⟨?_, next_then ?_⟩
    · first | ((with_reducible refine Ob.mk ?_); first | exact trivial | (intros; omega) | ((repeat' first | apply And.intro | (intro hg; have hg' := hg; try simp only [zH] at hg')) <;> first | (with_reducible exact True.intro) | assumption | omega | (simp only [zH]; omega))) | skip
    refine awpL_callG ([]) (solved_fg hv hzi) rfl rfl rfl rfl rfl rfl rfl rfl rfl (by simp only [rinR, rhoC, zE0, zE1, zE2, zE3, zE4, zE5, evp, evx, ev1, evLoad, evStore, evBin, isBoolK, forall_const, z38, tb, Nat.reduceAdd, Nat.reduceSub, Nat.reduceMul, Nat.reduceEqDiff, Nat.reduceLeDiff, Nat.reduceLT, Nat.reduceBEq, Nat.reduceBNe, ↓reduceIte, reduceIte, spZp, validS, membersS, svA, nilR]) ?_; intro gm gv gr hq m' e' l' h; obtain ⟨W', C', e, hZ, hq⟩ := hq; simp only [GR.mk.injEq] at hq; obtain ⟨rfl, rfl, rfl⟩ := hq; simp only [rhoC, outR, renR, dels, zE0, zE1, zE2, zE3, zE4, zE5, evp, evx, ev1, evLoad, evStore, evBin, isBoolK, forall_const, z38, tb, Nat.reduceAdd, Nat.reduceSub, Nat.reduceMul, Nat.reduceEqDiff, Nat.reduceLeDiff, Nat.reduceLT, Nat.reduceBEq, Nat.reduceBNe, ↓reduceIte, reduceIte, spZp, validS, membersS, svA, nilR] at h; obtain ⟨rfl, rfl, rfl⟩ := h; refine next_then ?_
    refine awpL_text htb hmz spZp_ok (fun _ => false) rfl rfl rfl ?_; intro m' e' l' ob h; simp only [zE0, zE1, zE2, zE3, zE4, zE5, evp, evx, ev1, evLoad, evStore, evBin, isBoolK, forall_const, z38, tb, Nat.reduceAdd, Nat.reduceSub, Nat.reduceMul, Nat.reduceEqDiff, Nat.reduceLeDiff, Nat.reduceLT, Nat.reduceBEq, Nat.reduceBNe, ↓reduceIte, reduceIte, spZp, validS, membersS, svA, nilR] at h; obtain ⟨rfl, rfl, rfl, rfl⟩ := h; refine ⟨?_, ?_⟩
    · first | ((with_reducible refine Ob.mk ?_); first | exact trivial | (intros; omega) | ((repeat' first | apply And.intro | (intro hg; have hg' := hg; try simp only [zH] at hg')) <;> first | (with_reducible exact True.intro) | assumption | omega | (simp only [zH]; omega))) | skip
    refine next_then ?_
    repeat' first
      | with_reducible first | refine awp_seq ?_ | refine awp_block ?_ | refine next_then ?_ | refine next_block ?_ | refine exit_then ?_ | refine ret_then ?_ | refine ret_block ?_ | refine exit_here ?_ | refine awp_exit ?_ | refine awp_ret ?_ | refine awp_skip ?_ | refine awp_label ?_ | refine next_noGoto ?_ | refine ret_noGoto ?_ | refine exit_noGoto ?_ | refine awp_scope ?_
      | ((with_reducible refine exit_past ?_ ?_); exact rfl)
      | ((with_reducible refine isCond ?_); refine awp_condO rfl ?_ ?_ <;> intro hb <;> (try simp only [zH] at hb))
      | ((with_reducible refine isReg ?_); (first | refine awp_textM htb hmz spZp_ok (fun _ => false) rfl rfl ?_ | refine awp_drawM hmo htb hmz spZp_ok (fun _ => false) rfl rfl (by kernel_rfl) ?_); intro m' e' l' ob h; simp only [zE0, zE1, zE2, zE3, zE4, zE5, evp, evx, ev1, evLoad, evStore, evBin, isBoolK, forall_const, z38, tb, Nat.reduceAdd, Nat.reduceSub, Nat.reduceMul, Nat.reduceEqDiff, Nat.reduceLeDiff, Nat.reduceLT, Nat.reduceBEq, Nat.reduceBNe, ↓reduceIte, reduceIte, spZp, validS, membersS, svA, nilR] at h; obtain ⟨rfl, rfl, rfl, rfl⟩ := h; refine ⟨?_, ?_⟩)
      | ((with_reducible refine Ob.mk ?_); first | exact trivial | (intros; omega) | ((repeat' first | apply And.intro | (intro hg; have hg' := hg; try simp only [zH] at hg')) <;> first | (with_reducible exact True.intro) | assumption | omega | (simp only [zH]; omega)))
    refine ⟨_, _, rfl, rfl, fun k hk => by rw [List.mem_singleton.1 hk]; rfl, (by show List.Nodup [23]; decide), Nat.zero_le _, gq_of ⟨0, resV [.agg (.cons (.roI W') (.cons (.roI C') .nil)), .int .i64 e], []⟩ [] ⟨W', C', e, .inr ⟨hv, .inr ⟨hkl, .inr ⟨hkne, ?_⟩⟩⟩, rfl⟩ rfl (imp_eq rfl) trivial⟩
    rw [hxl] at hZ
    rcases hZ with ⟨rfl, l', hZ⟩ | ⟨rfl, rfl, rfl, hZ⟩
    · obtain ⟨hW, hC, _, _⟩ := ZR_facts hZ
      rw [List.length_replicate] at hW hC
      exact .inl ⟨rfl, hW.trans hkl.symm, hC.trans hkl.symm, ZR_sol hV hZ hkl List.length_replicate List.length_replicate hT⟩
    · exact .inr ⟨rfl, rfl, rfl, part_full hV hkl hT hZ⟩
  · rintro ⟨i, e, a⟩ ⟨he, v, hm, hp⟩
    dsimp only at he ⊢
    subst he
    repeat' first
      | with_reducible first | refine awp_seq ?_ | refine awp_block ?_ | refine next_then ?_ | refine next_block ?_ | refine exit_then ?_ | refine ret_then ?_ | refine ret_block ?_ | refine exit_here ?_ | refine awp_exit ?_ | refine awp_ret ?_ | refine awp_skip ?_ | refine awp_label ?_ | refine next_noGoto ?_ | refine ret_noGoto ?_ | refine exit_noGoto ?_ | refine awp_scope ?_
      | ((with_reducible refine exit_past ?_ ?_); exact rfl)
      | ((with_reducible refine isCond ?_); refine awp_condO rfl ?_ ?_ <;> intro hb <;> (try simp only [zH] at hb))
      | ((with_reducible refine isReg ?_); (first | refine awp_textM htb hmz spZp_ok (fun _ => false) rfl rfl ?_ | refine awp_drawM hmo htb hmz spZp_ok (fun _ => false) rfl rfl (by kernel_rfl) ?_); intro m' e' l' ob h; simp only [zE0, zE1, zE2, zE3, zE4, zE5, evp, evx, ev1, evLoad, evStore, evBin, isBoolK, forall_const, z38, tb, Nat.reduceAdd, Nat.reduceSub, Nat.reduceMul, Nat.reduceEqDiff, Nat.reduceLeDiff, Nat.reduceLT, Nat.reduceBEq, Nat.reduceBNe, ↓reduceIte, reduceIte, spZp, validS, membersS, svA, nilR] at h; obtain ⟨rfl, rfl, rfl, rfl⟩ := h; refine ⟨?_, ?_⟩)
      | ((with_reducible refine Ob.mk ?_); first | exact trivial | (intros; omega) | ((repeat' first | apply And.intro | (intro hg; have hg' := hg; try simp only [zH] at hg')) <;> first | assumption | omega | (simp only [zH]; omega)))
    refine ⟨_, _, rfl, rfl, fun k hk => by rw [List.mem_singleton.1 hk]; rfl, (by show List.Nodup [23]; decide), Nat.zero_le _, gq_of ⟨0, resV [.agg (.cons (.roI []) (.cons (.roI []) .nil)), .int .i64 4], []⟩ [] ⟨[], [], 4, .inr ⟨hv, .inr ⟨hkl, .inl ⟨.inr ⟨v, by rw [hkl] at hm; exact hm, hp⟩, rfl, rfl, rfl⟩⟩⟩, rfl⟩ rfl ?_ trivial⟩
    exact imp_tup (imp_cons (imp_agg (imp_cons imp_nilI (imp_cons imp_nilI (imp_eq rfl)))) (imp_eq rfl))
end Go.Proofs.Ytlckljphakkomaa.Cal
namespace Go.Proofs.Ytlckljphakkomaa.Cal
open Go Pl
theorem kpm_next {k : List Bool} {f : Nat → Int} {i : Nat} (h : k.getD i false = true) : (kp k (i + 1)).map f = (kp k i).map f ++ [f i] := by rw [kp_succ, if_pos h, List.map_append]; rfl
theorem kpm_keep {k : List Bool} {f : Nat → Int} {i : Nat} (h : k.getD i false = false) : (kp k (i + 1)).map f = (kp k i).map f := by rw [kp_succ, if_neg (by rw [h]; decide)]
end Go.Proofs.Ytlckljphakkomaa.Cal
