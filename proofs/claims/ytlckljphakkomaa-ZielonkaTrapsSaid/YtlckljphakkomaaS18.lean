/- Own texts of the proof, merged, in order. -/
import Derived.Test.YtlckljphakkomaaS17
set_option linter.unusedVariables false
set_option linter.unusedSimpArgs false
namespace Go.Proofs.Ytlckljphakkomaa.Cal
open Go Pl
theorem lt_of_in {l : List Bool} {u n : Nat} (hn : l.length ≤ n) (h : l.getD u false = true) : u < n := by
  rcases Nat.lt_or_ge u l.length with h2 | h2
  · omega
  · rw [List.getD_eq_getElem?_getD, List.getElem?_eq_none h2] at h
    cases h
theorem sc_in {x : List (List Int)} {u t : Nat} (h : t ∈ sc x u) : u < x.length := by
  rcases Nat.lt_or_ge u x.length with h2 | h2
  · exact h2
  · unfold sc at h
    rw [List.getD_eq_getElem?_getD, List.getElem?_eq_none h2] at h
    cases h
structure AS where
  L : List (Nat × Nat)
  es : List (Int × Int × Nat)
  c : Nat
  i : Nat
set_option maxRecDepth 4000 in
set_option maxHeartbeats 4000000 in
theorem attract1_fg {o p : List Int} {x : List (List Int)} {left pl : Int} {to l : List Bool} {W C : List (Nat × Nat) → List Int} {E : List (Nat × Nat) → List (Int × Int × Nat)} {T : List (Nat × Nat) → Nat} (hV : Valid ⟨o, p, x⟩) (htl : to.length = o.length) (hll : l.length = o.length)
    (hto : ∀ u, u ∈ kp to o.length → l.getD u false = true) (hTr : ∀ u, l.getD u false = true → ∃ t, t ∈ sc x u ∧ l.getD t false = true)
    (hT : ∀ L v w, v < o.length → FG Try.prog 47 [.int .i64 (v : Nat), .int .i64 (w : Nat), .own 3] [(0, some (.box (svA o p x (backL x) left 1 2))), (1, some (.ints (W L))), (2, some (.ints (C L))), (3, some (.box (.own 4))), (4, some (.mp (E L) (T L)))] 5 fun g => g = ⟨5, resV [], [(0, some (.box (svA o p x (backL x) left 1 2))), (1, some (.ints (W (L ++ [(v, w)])))), (2, some (.ints (C (L ++ [(v, w)])))), (3, some (.box (.own 4))), (4, some (.mp (E (L ++ [(v, w)])) (T (L ++ [(v, w)]))))]⟩) :
    FG Try.prog 46 [.own 0, .int .i64 pl, .roB to, .roB l, .fn 47 (.cons (.own 3) .nil)] [(0, some (.box (svA o p x (backL x) left 1 2))), (1, some (.ints (W []))), (2, some (.ints (C []))), (3, some (.box (.own 4))), (4, some (.mp (E []) (T [])))] 5
      fun g => ∃ L es, AQ ⟨o, p, x⟩ pl to l L es (qo to o.length L).length [] ∧ g = ⟨5, .roB (atB to o.length L), [(0, some (.box (svA o p x (backL x) left 1 2))), (1, some (.ints (W L))), (2, some (.ints (C L))), (3, some (.box (.own 4))), (4, some (.mp (E L) (T L)))]⟩ := by
  obtain ⟨b, hb0⟩ : ∃ b : AS, b = ⟨[], [], 0, 0⟩ := ⟨_, rfl⟩
  refine fg_of htb (fn := Try.f46) (by kernel_rfl) (by kernel_rfl) rfl (Nat.le_of_ble_eq_true rfl) fun hl => ?_
  simp only [lenP, mkL, lim] at hl
  have hkl := kp_len (k := to) (n := to.length)
  obtain ⟨hn, hpl, hxl, hpos⟩ := id hV
  simp only [Gm.n] at hn hpl hxl
  obtain ⟨F0, hF0⟩ : ∃ F : Nat → List Bool, F = stB to fun _ => true := ⟨_, rfl⟩
  have hF0l : ∀ i, (F0 i).length = to.length := fun i => by rw [hF0]; exact stB_len
  have hF0n : ∀ i, i < (kp to to.length).length → (F0 i).set ((kp to to.length).getD i 0) true = F0 (i + 1) := fun i h => by rw [hF0]; exact stB_next h
  repeat' first
    | with_reducible first | refine awp_seq ?_ | refine awp_block ?_ | refine next_then ?_ | refine next_block ?_ | refine exit_then ?_ | refine ret_then ?_ | refine ret_block ?_ | refine exit_here ?_ | refine awp_exit ?_ | refine awp_ret ?_ | refine awp_skip ?_ | refine awp_label ?_ | refine next_noGoto ?_ | refine ret_noGoto ?_ | refine exit_noGoto ?_ | refine awp_scope ?_
    | ((with_reducible refine exit_past ?_ ?_); exact rfl)
    | ((with_reducible refine isCond ?_); refine awp_condO rfl ?_ ?_ <;> intro hb <;> (try simp only [zH] at hb))
    | ((with_reducible refine isReg ?_); (first | refine awp_textM htb hmz spMb_ok (fun _ => false) rfl rfl ?_ | refine awp_drawM hmo htb hmz spMb_ok (fun _ => false) rfl rfl (by kernel_rfl) ?_); intro m' e' l' ob h; simp only [zE0, zE1, zE2, zE3, zE4, zE5, evp, evx, ev1, evLoad, evStore, evBin, isBoolK, forall_const, z38, tb, Nat.reduceAdd, Nat.reduceSub, Nat.reduceMul, Nat.reduceEqDiff, Nat.reduceLeDiff, Nat.reduceLT, Nat.reduceBEq, Nat.reduceBNe, ↓reduceIte, reduceIte, svA, spMb, membersS] at h; obtain ⟨rfl, rfl, rfl, rfl⟩ := h; refine ⟨?_, ?_⟩)
    | ((with_reducible refine Ob.mk ?_); first | exact trivial | (intros; omega) | ((repeat' first | apply And.intro | (intro hg; have hg' := hg; try simp only [zH] at hg')) <;> first | (with_reducible exact True.intro) | assumption | omega | (simp only [zH]; omega)))
  refine awp_nilbox 11 (.ints []) (.own 14) rfl rfl rfl (by first | exact .inl rfl | exact .inr (.inl rfl) | exact .inr (.inr (.inl rfl)) | exact .inr (.inr (.inr rfl))) (by simp only [lkr_cons, lkr_nil, fzE, fzA, fzR, fzB, set1, nbeq, Nat.reduceEqDiff, decide_true, decide_false, ↓reduceIte, reduceIte, cond_true, cond_false, List.take_length, Option.some.injEq] <;> rfl) rfl ?_
  refine awp_leC ⟨16, [(24, .fn 41 (.cons (.rop (.roB to)) .nil)), (12, .own 11), (11, .own 9), (0, .own 0), (1, .int .i64 pl), (3, .roB l), (4, .fn 47 (.cons (.own 3) .nil))], [(11, some (.box (.own 15))), (15, some (.ints [])), (9, some (.box (.own 8))), (8, some (.bools (F0 0))), (0, some (.box (svA o p x (backL x) left 1 2))), (1, some (.ints (W b.L))), (2, some (.ints (C b.L))), (3, some (.box (.own 4))), (4, some (.mp (E b.L) (T b.L)))], []⟩ [(15, 14)] ?_ ?_
  · (refine ⟨rfl, ?_, ?_⟩ <;> simp only [zE0, zE1, zE2, zE3, zE4, zE5, evp, evx, ev1, evLoad, evStore, evBin, isBoolK, forall_const, z38, tb, Nat.reduceAdd, Nat.reduceSub, Nat.reduceMul, Nat.reduceEqDiff, Nat.reduceLeDiff, Nat.reduceLT, Nat.reduceBEq, Nat.reduceBNe, ↓reduceIte, reduceIte, svA, spMb, membersS, zI])
    subst hb0
    refine ⟨?_, rfl, rfl, rfl⟩
    rw [hF0, hll, ← htl]
    exact stB_zero
  refine awp_rangeV (m := 15) (M := 16) (fun i => i ≤ (kp to to.length).length) (fun _ : Nat => False) (fun i => (((kp to to.length).getD i 0 : Nat) : Int)) (fun i => i < (kp to to.length).length) (fun i i' => i' = i + 1) (fun i => i = 0) (fun i => i = (kp to to.length).length) .ret (fun i => [(11, some (.box (.own 15))), (15, some (.ints (((kp to to.length).take i).map fun v : Nat => (v : Int)))), (9, some (.box (.own 8))), (8, some (.bools (F0 i))), (0, some (.box (svA o p x (backL x) left 1 2))), (1, some (.ints (W b.L))), (2, some (.ints (C b.L))), (3, some (.box (.own 4))), (4, some (.mp (E b.L) (T b.L)))]) [] 0 (members1_iter to _ _ id fun t h => h) (Nat.zero_le _) rfl rfl rfl rfl rfl rfl rfl (fun k hk => by cases hk) (fun t k _ _ hk => sV_mem (M := 16) (l := [(11, some (.box (.own 15))), (15, some (.ints (((kp to to.length).take t).map fun v : Nat => (v : Int)))), (9, some (.box (.own 8))), (8, some (.bools (F0 t))), (0, some (.box (svA o p x (backL x) left 1 2))), (1, some (.ints (W b.L))), (2, some (.ints (C b.L))), (3, some (.box (.own 4))), (4, some (.mp (E b.L) (T b.L)))]) ⟨⟨rfl, rfl⟩, ⟨rfl, trivial⟩, ⟨rfl, rfl⟩, ⟨rfl, trivial⟩, ⟨rfl, rfl⟩, ⟨rfl, trivial⟩, ⟨rfl, trivial⟩, ⟨rfl, rfl⟩, ⟨rfl, trivial⟩, trivial⟩ k _ hk) ?_ ?_ ?_
  · intro lp i hi hg
    obtain ⟨hv1, hv2⟩ := kp_at' hg
    have hFn1 := hF0n i hg
    have hkt : ((kp to to.length).take (i + 1)).map (fun v : Nat => (v : Int)) = ((kp to to.length).take i).map (fun v : Nat => (v : Int)) ++ [(((kp to to.length).getD i 0 : Nat) : Int)] := by rw [take1 (d := 0) hg, List.map_append]; rfl
    have hkq : (((kp to to.length).take i).map (fun v : Nat => (v : Int))).length ≤ to.length := by rw [List.length_map, List.length_take]; omega
    generalize hvv : (kp to to.length).getD i 0 = v at *
    have hFi := hF0l i
    first | (refine awp_textM htb hmz spMb_ok (fun _ => false) rfl rfl ?_; intro m' e' l' ob h; simp only [zE0, zE1, zE2, zE3, zE4, zE5, evp, evx, ev1, evLoad, evStore, evBin, isBoolK, forall_const, z38, tb, Nat.reduceAdd, Nat.reduceSub, Nat.reduceMul, Nat.reduceEqDiff, Nat.reduceLeDiff, Nat.reduceLT, Nat.reduceBEq, Nat.reduceBNe, ↓reduceIte, reduceIte, svA, spMb, membersS] at h; obtain ⟨rfl, rfl, rfl, rfl⟩ := h; refine ⟨?_, ?_⟩)
          | (refine awp_drawM hmo htb hmz spMb_ok (fun _ => false) rfl rfl (by kernel_rfl) ?_; intro m' e' l' ob h; simp only [zE0, zE1, zE2, zE3, zE4, zE5, evp, evx, ev1, evLoad, evStore, evBin, isBoolK, forall_const, z38, tb, Nat.reduceAdd, Nat.reduceSub, Nat.reduceMul, Nat.reduceEqDiff, Nat.reduceLeDiff, Nat.reduceLT, Nat.reduceBEq, Nat.reduceBNe, ↓reduceIte, reduceIte, svA, spMb, membersS] at h; obtain ⟨rfl, rfl, rfl, rfl⟩ := h; refine ⟨?_, ?_⟩)
    · first | ((with_reducible refine Ob.mk ?_); first | exact trivial | (intros; omega) | ((repeat' first | apply And.intro | (intro hg; have hg' := hg; try simp only [zH] at hg')) <;> first | assumption | omega | (simp only [zH]; omega))) | skip
    refine ⟨rfl, ?_⟩
    repeat' first
      | with_reducible first | refine awp_seq ?_ | refine awp_block ?_ | refine next_then ?_ | refine next_block ?_ | refine exit_then ?_ | refine ret_then ?_ | refine ret_block ?_ | refine exit_here ?_ | refine awp_exit ?_ | refine awp_ret ?_ | refine awp_skip ?_ | refine awp_label ?_ | refine next_noGoto ?_ | refine ret_noGoto ?_ | refine exit_noGoto ?_ | refine awp_scope ?_
      | ((with_reducible refine exit_past ?_ ?_); exact rfl)
      | ((with_reducible refine isCond ?_); refine awp_condO rfl ?_ ?_ <;> intro hb <;> (try simp only [zH] at hb))
      | ((with_reducible refine isReg ?_); (first | refine awp_textM htb hmz spMb_ok (fun _ => false) rfl rfl ?_ | refine awp_drawM hmo htb hmz spMb_ok (fun _ => false) rfl rfl (by kernel_rfl) ?_); intro m' e' l' ob h; simp only [zE0, zE1, zE2, zE3, zE4, zE5, evp, evx, ev1, evLoad, evStore, evBin, isBoolK, forall_const, z38, tb, Nat.reduceAdd, Nat.reduceSub, Nat.reduceMul, Nat.reduceEqDiff, Nat.reduceLeDiff, Nat.reduceLT, Nat.reduceBEq, Nat.reduceBNe, ↓reduceIte, reduceIte, svA, spMb, membersS] at h; obtain ⟨rfl, rfl, rfl, rfl⟩ := h; refine ⟨?_, ?_⟩)
      | ((with_reducible refine Ob.mk ?_); first | exact trivial | (intros; omega) | ((repeat' first | apply And.intro | (intro hg; have hg' := hg; try simp only [zH] at hg')) <;> first | (with_reducible exact True.intro) | assumption | omega | (simp only [zH]; omega)))
    refine ⟨_, i + 1, [(15, 24)], rfl, ?_, .inl ⟨rfl, hg, rfl⟩⟩
    (refine ⟨rfl, ?_, ?_⟩ <;> simp only [zE0, zE1, zE2, zE3, zE4, zE5, evp, evx, ev1, evLoad, evStore, evBin, isBoolK, forall_const, z38, tb, Nat.reduceAdd, Nat.reduceSub, Nat.reduceMul, Nat.reduceEqDiff, Nat.reduceLeDiff, Nat.reduceLT, Nat.reduceBEq, Nat.reduceBNe, ↓reduceIte, reduceIte, svA, spMb, membersS, zI])
    exact ⟨hkt.symm, hFn1⟩
  · intro i hi hfin
    have hfin : i = (kp to to.length).length := hfin
    repeat' first
      | with_reducible first | refine awp_seq ?_ | refine awp_block ?_ | refine next_then ?_ | refine next_block ?_ | refine exit_then ?_ | refine ret_then ?_ | refine ret_block ?_ | refine exit_here ?_ | refine awp_exit ?_ | refine awp_ret ?_ | refine awp_skip ?_ | refine awp_label ?_ | refine next_noGoto ?_ | refine ret_noGoto ?_ | refine exit_noGoto ?_ | refine awp_scope ?_
      | ((with_reducible refine exit_past ?_ ?_); exact rfl)
      | ((with_reducible refine isCond ?_); refine awp_condO rfl ?_ ?_ <;> intro hb <;> (try simp only [zH] at hb))
      | ((with_reducible refine isRegS 8 ?_ ?_); (· exact rfl); (first | refine awp_textM htb hmz spMb_ok (fun _ => false) rfl rfl ?_ | refine awp_drawM hmo htb hmz spMb_ok (fun _ => false) rfl rfl (by kernel_rfl) ?_); intro m' e' l' ob h; simp only [zE0, zE1, zE2, zE3, zE4, zE5, evp, evx, ev1, evLoad, evStore, evBin, isBoolK, forall_const, z38, tb, Nat.reduceAdd, Nat.reduceSub, Nat.reduceMul, Nat.reduceEqDiff, Nat.reduceLeDiff, Nat.reduceLT, Nat.reduceBEq, Nat.reduceBNe, ↓reduceIte, reduceIte, svA, spMb, membersS] at h; obtain ⟨rfl, rfl, rfl, rfl⟩ := h; refine ⟨?_, ?_⟩)
      | ((with_reducible refine Ob.mk ?_); first | exact trivial | (intros; omega) | ((repeat' first | apply And.intro | (intro hg; have hg' := hg; try simp only [zH] at hg')) <;> first | (with_reducible exact True.intro) | assumption | omega | (simp only [zH]; omega)))
    have hF0e : F0 i = atB to o.length [] := by
      rw [hF0, hfin, stB_all, htl]
      refine List.map_congr_left fun v hv => ?_
      rw [Bool.and_true, Bool.eq_iff_iff, decide_eq_true_iff]
      simp only [qo, List.map_nil, List.append_nil]
      exact ⟨fun h => List.mem_filter.2 ⟨hv, h⟩, fun h => (List.mem_filter.1 h).2⟩
    have hq0 : (kp to to.length).take i = qo to o.length [] := by rw [hfin, List.take_length, htl]; simp [qo]
    have hA0 : AQ ⟨o, p, x⟩ pl to l [] [] 0 [] := AQ_begin hto hTr
    rw [hF0e, hq0]
    clear hF0e hq0 hF0n hF0l hF0 hfin hi hkl
    have hbL : b.L = [] := by rw [hb0]
    refine awp_loopC (τ := AS) (fun b => AQ ⟨o, p, x⟩ pl to l b.L b.es b.i [] ∧ ∀ k : Nat, 0 ≤ mget k b.es ∧ mget k b.es ≤ 64) (fun b => ⟨19, [(14, .own 17), (12, .own 11), (11, .own 9), (0, .own 0), (1, .int .i64 pl), (3, .roB l), (4, .fn 47 (.cons (.own 3) .nil))], [(17, some (.mp b.es b.c)), (16, some .dfr), (11, some (.box (.own 15))), (15, some (.ints (((qo to o.length b.L).drop b.i).map fun v : Nat => (v : Int)))), (9, some (.box (.own 8))), (8, some (.bools (atB to o.length b.L))), (0, some (.box (svA o p x (backL x) left 1 2))), (1, some (.ints (W b.L))), (2, some (.ints (C b.L))), (3, some (.box (.own 4))), (4, some (.mp (E b.L) (T b.L)))], [16]⟩) (fun b => o.length - b.i) ⟨[], [], 0, 0⟩ [] ?_ ⟨hA0, fun k => ⟨Int.le_refl 0, (by decide : (0 : Int) ≤ 64)⟩⟩ ?_
    · rw [hbL]
      (refine ⟨rfl, ?_, ?_⟩ <;> simp only [zE0, zE1, zE2, zE3, zE4, zE5, evp, evx, ev1, evLoad, evStore, evBin, isBoolK, forall_const, z38, tb, Nat.reduceAdd, Nat.reduceSub, Nat.reduceMul, Nat.reduceEqDiff, Nat.reduceLeDiff, Nat.reduceLT, Nat.reduceBEq, Nat.reduceBNe, ↓reduceIte, reduceIte, svA, spMb, membersS, zI])
    clear hA0 hbL hb0 b F0
    intro b hA
    have hql : (qo to o.length b.L).length ≤ o.length := nodup_len _ _ hA.1.nd fun u hu => lt_of_in (by omega) (hA.1.ql u hu)
    have hiq : b.i ≤ (qo to o.length b.L).length := hA.1.iq
    cases hdr : (qo to o.length b.L).drop b.i with
    | nil =>
      have hie : b.i = (qo to o.length b.L).length := by have := List.drop_eq_nil_iff.1 hdr; omega
      simp only [List.map_nil]
      repeat' first
        | with_reducible first | refine awp_seq ?_ | refine awp_block ?_ | refine next_then ?_ | refine next_block ?_ | refine exit_then ?_ | refine ret_then ?_ | refine ret_block ?_ | refine exit_here ?_ | refine awp_exit ?_ | refine awp_ret ?_ | refine awp_skip ?_ | refine awp_label ?_ | refine next_noGoto ?_ | refine ret_noGoto ?_ | refine exit_noGoto ?_ | refine awp_scope ?_
        | ((with_reducible refine exit_past ?_ ?_); exact rfl)
        | ((with_reducible refine isCond ?_); refine awp_condO rfl ?_ ?_ <;> intro hb <;> (try simp only [zH] at hb))
        | ((with_reducible refine isRegS 25 ?_ ?_); (· exact rfl); (first | refine awp_textM htb hmz spMb_ok (fun _ => false) rfl rfl ?_ | refine awp_drawM hmo htb hmz spMb_ok (fun _ => false) rfl rfl (by kernel_rfl) ?_); intro m' e' l' ob h; simp only [zE0, zE1, zE2, zE3, zE4, zE5, evp, evx, ev1, evLoad, evStore, evBin, isBoolK, forall_const, z38, tb, Nat.reduceAdd, Nat.reduceSub, Nat.reduceMul, Nat.reduceEqDiff, Nat.reduceLeDiff, Nat.reduceLT, Nat.reduceBEq, Nat.reduceBNe, ↓reduceIte, reduceIte, svA, spMb, membersS] at h; obtain ⟨rfl, rfl, rfl, rfl⟩ := h; refine ⟨?_, ?_⟩)
        | ((with_reducible refine Ob.mk ?_); first | exact trivial | (intros; omega) | ((repeat' first | apply And.intro | (intro hg; have hg' := hg; try simp only [zH] at hg')) <;> first | (with_reducible exact True.intro) | assumption | omega | (simp only [zH]; omega)))
      · simp at hb
      refine awp_fzN 8 (.roB (atB to o.length b.L)) (by simp only [lkr_cons, lkr_nil, fzE, fzA, fzR, fzB, set1, nbeq, Nat.reduceEqDiff, decide_true, decide_false, ↓reduceIte, reduceIte, cond_true, cond_false, List.take_length, Option.some.injEq]; rfl) (by first | exact rfl | (refine ⟨?_, rfl⟩; first | rfl | (intros; rfl))) (by simp only [lkr_cons, lkr_nil, fzE, fzA, fzR, fzB, set1, nbeq, Nat.reduceEqDiff, decide_true, decide_false, ↓reduceIte, reduceIte, cond_true, cond_false, List.take_length, Option.some.injEq]; rfl) (by simp only [lkr_cons, lkr_nil, fzE, fzA, fzR, fzB, set1, nbeq, Nat.reduceEqDiff, decide_true, decide_false, ↓reduceIte, reduceIte, cond_true, cond_false, List.take_length, Option.some.injEq]; rfl) ?_
      repeat' first
        | with_reducible first | refine awp_seq ?_ | refine awp_block ?_ | refine next_then ?_ | refine next_block ?_ | refine exit_then ?_ | refine ret_then ?_ | refine ret_block ?_ | refine exit_here ?_ | refine awp_exit ?_ | refine awp_ret ?_ | refine awp_skip ?_ | refine awp_label ?_ | refine next_noGoto ?_ | refine ret_noGoto ?_ | refine exit_noGoto ?_ | refine awp_scope ?_
        | ((with_reducible refine exit_past ?_ ?_); exact rfl)
        | ((with_reducible refine isCond ?_); refine awp_condO rfl ?_ ?_ <;> intro hb <;> (try simp only [zH] at hb))
        | ((with_reducible refine isReg ?_); (first | refine awp_textM htb hmz spMb_ok (fun _ => false) rfl rfl ?_ | refine awp_drawM hmo htb hmz spMb_ok (fun _ => false) rfl rfl (by kernel_rfl) ?_); intro m' e' l' ob h; simp only [zE0, zE1, zE2, zE3, zE4, zE5, evp, evx, ev1, evLoad, evStore, evBin, isBoolK, forall_const, z38, tb, Nat.reduceAdd, Nat.reduceSub, Nat.reduceMul, Nat.reduceEqDiff, Nat.reduceLeDiff, Nat.reduceLT, Nat.reduceBEq, Nat.reduceBNe, ↓reduceIte, reduceIte, svA, spMb, membersS] at h; obtain ⟨rfl, rfl, rfl, rfl⟩ := h; refine ⟨?_, ?_⟩)
        | ((with_reducible refine Ob.mk ?_); first | exact trivial | (intros; omega) | ((repeat' first | apply And.intro | (intro hg; have hg' := hg; try simp only [zH] at hg')) <;> first | assumption | omega | (simp only [zH]; omega)))
      refine ⟨_, _, rfl, rfl, fun k hk => by rw [List.mem_singleton.1 hk]; rfl, (by show [16].Nodup; decide), by show 5 ≤ 22 + 2; omega, gq_of ⟨5, .roB (atB to o.length b.L), [(0, some (.box (svA o p x (backL x) left 1 2))), (1, some (.ints (W b.L))), (2, some (.ints (C b.L))), (3, some (.box (.own 4))), (4, some (.mp (E b.L) (T b.L)))]⟩ [] ⟨b.L, b.es, by rw [← hie]; exact hA.1, rfl⟩ rfl (imp_eq rfl) ?_⟩
      simp only [grR, zE0, zE1, zE2, zE3, zE4, zE5, evp, evx, ev1, evLoad, evStore, evBin, isBoolK, forall_const, z38, tb, Nat.reduceAdd, Nat.reduceSub, Nat.reduceMul, Nat.reduceEqDiff, Nat.reduceLeDiff, Nat.reduceLT, Nat.reduceBEq, Nat.reduceBNe, ↓reduceIte, reduceIte, svA, spMb, membersS]
    | cons w rest =>
      have hwq : (qo to o.length b.L)[b.i]? = some w := by
        have h1 : ((qo to o.length b.L).drop b.i)[0]? = some w := by rw [hdr]; rfl
        rw [List.getElem?_drop] at h1
        exact h1
      have hwn : w < o.length := lt_of_in (by omega) (hA.1.ql w (List.mem_of_getElem? hwq))
      have hrest : rest = (qo to o.length b.L).drop (b.i + 1) := by
        have h1 : ((qo to o.length b.L).drop b.i).drop 1 = rest := by rw [hdr]; rfl
        rw [List.drop_drop] at h1
        exact h1.symm
      have hrl : rest.length ≤ o.length := by rw [hrest, List.length_drop]; omega
      have hBl : (backL x).length = o.length := by simp [backL]; exact hxl
      simp only [List.map_cons]
      repeat' first
        | with_reducible first | refine awp_seq ?_ | refine awp_block ?_ | refine next_then ?_ | refine next_block ?_ | refine exit_then ?_ | refine ret_then ?_ | refine ret_block ?_ | refine exit_here ?_ | refine awp_exit ?_ | refine awp_ret ?_ | refine awp_skip ?_ | refine awp_label ?_ | refine next_noGoto ?_ | refine ret_noGoto ?_ | refine exit_noGoto ?_ | refine awp_scope ?_
        | ((with_reducible refine exit_past ?_ ?_); exact rfl)
        | ((with_reducible refine isCond ?_); refine awp_condO rfl ?_ ?_ <;> intro hb <;> (try simp only [zH] at hb))
        | ((with_reducible refine isRegS 12 ?_ ?_); (· exact rfl); (first | refine awp_textM htb hmz spMb_ok (fun _ => false) rfl rfl ?_ | refine awp_drawM hmo htb hmz spMb_ok (fun _ => false) rfl rfl (by kernel_rfl) ?_); intro m' e' l' ob h; simp only [zE0, zE1, zE2, zE3, zE4, zE5, evp, evx, ev1, evLoad, evStore, evBin, isBoolK, forall_const, z38, tb, Nat.reduceAdd, Nat.reduceSub, Nat.reduceMul, Nat.reduceEqDiff, Nat.reduceLeDiff, Nat.reduceLT, Nat.reduceBEq, Nat.reduceBNe, ↓reduceIte, reduceIte, svA, spMb, membersS] at h; obtain ⟨rfl, rfl, rfl, rfl⟩ := h; refine ⟨?_, ?_⟩)
        | ((with_reducible refine Ob.mk ?_); first | exact trivial | (intros; omega) | ((repeat' first | apply And.intro | (intro hg; have hg' := hg; try simp only [zH] at hg')) <;> first | (with_reducible exact True.intro) | assumption | omega | (simp only [zH]; omega)))
      rotate_left
      · exfalso; omega
      have hbf := back_fact hV hwn
      have hba := back_all hV hwn
      dsimp only at hbf hba
      have hrl6 : ∀ v, v < o.length → (x.getD v []).length ≤ 64 := fun v h => by
        obtain ⟨⟨a1, a2, a3, a4, _, a6⟩, _⟩ := hpos v (by simp only [Gm.n]; omega)
        exact a6
      have hrb : ∀ v, v < o.length → ∀ j, j < (x.getD v []).length → 0 ≤ (x.getD v []).getD j 0 ∧ (x.getD v []).getD j 0 < (l.length : Int) := fun v h j hj => by
        obtain ⟨_, hr⟩ := hpos v (by simp only [Gm.n]; omega)
        have h1 : (x.getD v []).getD j 0 < (o.length : Int) := (hr j hj).2.1
        exact ⟨(hr j hj).1, by omega⟩
      have hrow : ((backL x).getD w []).length ≤ 64 * o.length := by
        have h1 := back_is hV hwn
        dsimp only at h1
        rw [h1]
        exact bkI_len (fun v h => hrl6 v (by omega)) o.length (by omega)
      generalize (backL x).getD w [] = row at *
      have hq1 : List.drop 1 ((w : Int) :: rest.map fun v : Nat => (v : Int)) = ((qo to o.length b.L).drop (b.i + 1)).map fun v : Nat => (v : Int) := by rw [← hrest]; rfl
      rw [hq1]
      refine awp_loopC (τ := AS) (fun t => (t.i ≤ row.length ∧ (qo to o.length t.L)[b.i]? = some w) ∧ AQ ⟨o, p, x⟩ pl to l t.L t.es b.i ((row.take t.i).map Int.toNat) ∧ ∀ k : Nat, 0 ≤ mget k t.es ∧ mget k t.es ≤ 64) (fun t => ⟨38, [(50, .int .i64 t.i), (49, .int .i64 row.length), (48, .roI row), (15, .int .i64 w), (14, .own 17), (12, .own 11), (11, .own 9), (0, .own 0), (1, .int .i64 pl), (3, .roB l), (4, .fn 47 (.cons (.own 3) .nil))], [(17, some (.mp t.es t.c)), (16, some .dfr), (11, some (.box (.own 27))), (27, some (.ints (((qo to o.length t.L).drop (b.i + 1)).map fun v : Nat => (v : Int)))), (9, some (.box (.own 8))), (8, some (.bools (atB to o.length t.L))), (0, some (.box (svA o p x (backL x) left 1 2))), (1, some (.ints (W t.L))), (2, some (.ints (C t.L))), (3, some (.box (.own 4))), (4, some (.mp (E t.L) (T t.L)))], [16]⟩) (fun t => row.length - t.i) ⟨b.L, b.es, b.c, 0⟩ [] ?_ ⟨⟨Nat.zero_le _, hwq⟩, hA.1, hA.2⟩ ?_
      · (refine ⟨rfl, ?_, ?_⟩ <;> simp only [zE0, zE1, zE2, zE3, zE4, zE5, evp, evx, ev1, evLoad, evStore, evBin, isBoolK, forall_const, z38, tb, Nat.reduceAdd, Nat.reduceSub, Nat.reduceMul, Nat.reduceEqDiff, Nat.reduceLeDiff, Nat.reduceLT, Nat.reduceBEq, Nat.reduceBNe, ↓reduceIte, reduceIte, svA, spMb, membersS, zI])
      clear hq1 hdr hrest hwq hrl hb hql
      rintro t ⟨⟨hj, hwq⟩, hA, hbd⟩
      have hql : (qo to o.length t.L).length ≤ o.length := nodup_len _ _ hA.nd fun u hu => lt_of_in (by omega) (hA.ql u hu)
      have hiq2 : b.i < (qo to o.length t.L).length := (List.getElem?_eq_some_iff.1 hwq).1
      have hdl : (((qo to o.length t.L).drop (b.i + 1)).map fun v : Nat => (v : Int)).length ≤ o.length := by rw [List.length_map, List.length_drop]; omega
      have hal : (atB to o.length t.L).length = o.length := by simp [atB]
      by_cases hjl : t.i < row.length
      · obtain ⟨u, hu⟩ : ∃ u : Nat, row.getD t.i 0 = (u : Int) := ⟨_, (hbf t.i hjl).1⟩
        obtain ⟨_, hun, hwu, hud⟩ := hbf t.i hjl
        rw [hu, Int.toNat_natCast] at hun hwu hud
        have hdn : (row.take (t.i + 1)).map Int.toNat = (row.take t.i).map Int.toNat ++ [u] := by rw [take1 (d := 0) hjl, List.map_append, hu]; rfl
        have hnd := sc_nodup hV hun
        have hbu := hbd u
        have hwl := hA.ql w (List.mem_of_getElem? hwq)
        repeat' first
          | with_reducible first | refine awp_seq ?_ | refine awp_block ?_ | refine next_then ?_ | refine next_block ?_ | refine exit_then ?_ | refine ret_then ?_ | refine ret_block ?_ | refine exit_here ?_ | refine awp_exit ?_ | refine awp_ret ?_ | refine awp_skip ?_ | refine awp_label ?_ | refine next_noGoto ?_ | refine ret_noGoto ?_ | refine exit_noGoto ?_ | refine awp_scope ?_
          | ((with_reducible refine exit_past ?_ ?_); exact rfl)
          | ((with_reducible refine isCond ?_); refine awp_condO rfl ?_ ?_ <;> intro hb <;> (try simp only [zH] at hb))
          | ((with_reducible refine isRegS 14 ?_ ?_); (· exact rfl); (first | refine awp_textM htb hmz spMb_ok (fun _ => false) rfl rfl ?_ | refine awp_drawM hmo htb hmz spMb_ok (fun _ => false) rfl rfl (by kernel_rfl) ?_); intro m' e' l' ob h; simp only [zE0, zE1, zE2, zE3, zE4, zE5, evp, evx, ev1, evLoad, evStore, evBin, isBoolK, forall_const, z38, tb, Nat.reduceAdd, Nat.reduceSub, Nat.reduceMul, Nat.reduceEqDiff, Nat.reduceLeDiff, Nat.reduceLT, Nat.reduceBEq, Nat.reduceBNe, ↓reduceIte, reduceIte, svA, spMb, membersS] at h; obtain ⟨rfl, rfl, rfl, rfl⟩ := h; refine ⟨?_, ?_⟩)
          | ((with_reducible refine Ob.mk ?_); first | exact trivial | (intros; omega) | ((repeat' first | apply And.intro | (intro hg; have hg' := hg; try simp only [zH] at hg')) <;> first | (with_reducible exact True.intro) | assumption | omega | (simp only [zH]; omega)))
        rw [hu]
        repeat' first
          | with_reducible first | refine awp_seq ?_ | refine awp_block ?_ | refine next_then ?_ | refine next_block ?_ | refine exit_then ?_ | refine ret_then ?_ | refine ret_block ?_ | refine exit_here ?_ | refine awp_exit ?_ | refine awp_ret ?_ | refine awp_skip ?_ | refine awp_label ?_ | refine next_noGoto ?_ | refine ret_noGoto ?_ | refine exit_noGoto ?_ | refine awp_scope ?_
          | ((with_reducible refine exit_past ?_ ?_); exact rfl)
          | ((with_reducible refine isCond ?_); refine awp_condO rfl ?_ ?_ <;> intro hb <;> (try simp only [zH] at hb))
          | ((with_reducible refine isRegS 18 ?_ ?_); (· exact rfl); (with_reducible refine isRegS 19 ?_ ?_); (· exact rfl); (with_reducible refine isRegS 22 ?_ ?_); (· exact rfl); (first | refine awp_textM htb hmz spMb_ok (fun _ => false) rfl rfl ?_ | refine awp_drawM hmo htb hmz spMb_ok (fun _ => false) rfl rfl (by kernel_rfl) ?_); intro m' e' l' ob h; simp only [zE0, zE1, zE2, zE3, zE4, zE5, evp, evx, ev1, evLoad, evStore, evBin, isBoolK, forall_const, z38, tb, Nat.reduceAdd, Nat.reduceSub, Nat.reduceMul, Nat.reduceEqDiff, Nat.reduceLeDiff, Nat.reduceLT, Nat.reduceBEq, Nat.reduceBNe, ↓reduceIte, reduceIte, svA, spMb, membersS] at h; obtain ⟨rfl, rfl, rfl, rfl⟩ := h; refine ⟨?_, ?_⟩)
          | ((with_reducible refine Ob.mk ?_); first | exact trivial | (intros; omega) | ((repeat' first | apply And.intro | (intro hg; have hg' := hg; try simp only [zH] at hg')) <;> first | (with_reducible exact True.intro) | assumption | omega | (simp only [zH]; omega)))
        · refine back ⟨t.L, t.es, t.c, t.i + 1⟩ [] ?_ ⟨⟨by dsimp only; omega, hwq⟩, ?_, hbd⟩ (by dsimp only; omega)
          · (refine ⟨rfl, ?_, ?_⟩ <;> simp only [zE0, zE1, zE2, zE3, zE4, zE5, evp, evx, ev1, evLoad, evStore, evBin, isBoolK, forall_const, z38, tb, Nat.reduceAdd, Nat.reduceSub, Nat.reduceMul, Nat.reduceEqDiff, Nat.reduceLeDiff, Nat.reduceLT, Nat.reduceBEq, Nat.reduceBNe, ↓reduceIte, reduceIte, svA, spMb, membersS, zI])
          · dsimp only
            rw [hdn]
            exact AQ_skip hA hwq (hb.imp id (atB_iff hun).1)
        · rename_i hb2 hop
          obtain ⟨hlu, huo⟩ := hb2
          have huq : u ∉ qo to o.length t.L := fun h => by rw [(atB_iff hun).2 h] at huo; cases huo
          obtain ⟨h0, _, h2⟩ := hA.c0o u hlu huq hop
          have hg2 := h2 hb
          dsimp only at h0 hg2
          have h64 := hrl6 u hun
          have hlf := lfn_le (g := ⟨o, p, x⟩) (l := l) (i := b.i) (u := u) (dn := (row.take t.i).map Int.toNat) (qo to o.length t.L)
          dsimp only at hlf
          refine awp_cut ([_, _, _, _, _]) ([_]) rfl rfl ?_
          refine awpL_text htb hmz spMb_ok (fun _ => false) rfl rfl rfl ?_; intro m' e' l' ob h; simp only [zE0, zE1, zE2, zE3, zE4, zE5, evp, evx, ev1, evLoad, evStore, evBin, isBoolK, forall_const, z38, tb, Nat.reduceAdd, Nat.reduceSub, Nat.reduceMul, Nat.reduceEqDiff, Nat.reduceLeDiff, Nat.reduceLT, Nat.reduceBEq, Nat.reduceBNe, ↓reduceIte, reduceIte, svA, spMb, membersS] at h; obtain ⟨rfl, rfl, rfl, rfl⟩ := h; refine ⟨?_, next_then ?_⟩
          · first | ((with_reducible refine Ob.mk ?_); first | exact trivial | (intros; omega) | ((repeat' first | apply And.intro | (intro hg; have hg' := hg; try simp only [zH] at hg')) <;> first | (with_reducible exact True.intro) | assumption | omega | (simp only [zH]; omega))) | skip
          refine awpL_callG ([0, 1, 2]) (insd_fg (o := o) (p := p) (x := x) (B := backL x) (left := left) (W := W t.L) (C := C t.L) (l := l) (v := u) (by omega) (fun j hj => hrb u hun j hj) h64) rfl rfl rfl rfl rfl rfl rfl rfl rfl (by simp only [rinR, rhoC, zE0, zE1, zE2, zE3, zE4, zE5, evp, evx, ev1, evLoad, evStore, evBin, isBoolK, forall_const, z38, tb, Nat.reduceAdd, Nat.reduceSub, Nat.reduceMul, Nat.reduceEqDiff, Nat.reduceLeDiff, Nat.reduceLT, Nat.reduceBEq, Nat.reduceBNe, ↓reduceIte, reduceIte, svA, spMb, membersS]) ?_; intro gm gv gr hq m' e' l' h; simp only [GR.mk.injEq] at hq; obtain ⟨rfl, rfl, rfl⟩ := hq; simp only [rhoC, outR, renR, dels, zE0, zE1, zE2, zE3, zE4, zE5, evp, evx, ev1, evLoad, evStore, evBin, isBoolK, forall_const, z38, tb, Nat.reduceAdd, Nat.reduceSub, Nat.reduceMul, Nat.reduceEqDiff, Nat.reduceLeDiff, Nat.reduceLT, Nat.reduceBEq, Nat.reduceBNe, ↓reduceIte, reduceIte, svA, spMb, membersS] at h; obtain ⟨rfl, rfl, rfl⟩ := h; refine next_then ?_
          refine awpL_text htb hmz spMb_ok (fun _ => false) rfl rfl rfl ?_; intro m' e' l' ob h; simp only [zE0, zE1, zE2, zE3, zE4, zE5, evp, evx, ev1, evLoad, evStore, evBin, isBoolK, forall_const, z38, tb, Nat.reduceAdd, Nat.reduceSub, Nat.reduceMul, Nat.reduceEqDiff, Nat.reduceLeDiff, Nat.reduceLT, Nat.reduceBEq, Nat.reduceBNe, ↓reduceIte, reduceIte, svA, spMb, membersS] at h; obtain ⟨rfl, rfl, rfl, rfl⟩ := h; refine ⟨?_, ?_⟩
          · first | ((with_reducible refine Ob.mk ?_); first | exact trivial | (intros; omega) | ((repeat' first | apply And.intro | (intro hg; have hg' := hg; try simp only [zH] at hg')) <;> first | (with_reducible exact True.intro) | assumption | omega | (simp only [zH]; omega))) | skip
          have hin : inN l (x.getD u []) = inM x l u := rfl
          rw [hin, hg2]
          obtain ⟨e1, he1⟩ : ∃ e, e = mput (u : Int) (lfn x l (qo to o.length t.L) b.i ((row.take t.i).map Int.toNat) u : Int) t.c t.es := ⟨_, rfl⟩
          obtain ⟨c1, hc1⟩ : ∃ c, c = mclk (u : Int) t.c t.es := ⟨_, rfl⟩
          rw [← he1, ← hc1]
          have hg1 : mget u e1 = lfn x l (qo to o.length t.L) b.i ((row.take t.i).map Int.toNat) u := by rw [he1, mget_mput, if_pos rfl]
          have hot : ∀ u' : Nat, u' ≠ u → mhas u' e1 = mhas u' t.es ∧ mget u' e1 = mget u' t.es := fun u' hu' => by
            rw [he1]
            exact ⟨by rw [mhas_mput, if_neg (by omega)], by rw [mget_mput, if_neg (by omega)]⟩
          have hb1 : ∀ k : Nat, 0 ≤ mget k e1 ∧ mget k e1 ≤ 64 := fun k => by
            rw [he1, mget_mput]
            split
            · omega
            · exact hbd k
          have hbu1 := hb1 u
          have hes : ∀ u' : Nat, u' ≠ u → mhas u' (mput u (mget u (e1) - 1) (c1) (e1)) = mhas u' t.es ∧ mget u' (mput u (mget u (e1) - 1) (c1) (e1)) = mget u' t.es := fun u' hu' => ⟨(mhas_mput.trans (if_neg (by omega))).trans (hot u' hu').1, (mget_mput.trans (if_neg (by omega))).trans (hot u' hu').2⟩
          have heb : ∀ k : Nat, 0 ≤ mget u (e1) - 1 → 0 ≤ mget k (mput u (mget u (e1) - 1) (c1) (e1)) ∧ mget k (mput u (mget u (e1) - 1) (c1) (e1)) ≤ 64 := fun k h0 => by
            rw [mget_mput]
            split
            · omega
            · exact hb1 k
          repeat' first
            | with_reducible first | refine awp_seq ?_ | refine awp_block ?_ | refine next_then ?_ | refine next_block ?_ | refine exit_then ?_ | refine ret_then ?_ | refine ret_block ?_ | refine exit_here ?_ | refine awp_exit ?_ | refine awp_ret ?_ | refine awp_skip ?_ | refine awp_label ?_ | refine next_noGoto ?_ | refine ret_noGoto ?_ | refine exit_noGoto ?_ | refine awp_scope ?_
            | ((with_reducible refine exit_past ?_ ?_); exact rfl)
            | ((with_reducible refine isCond ?_); refine awp_condO rfl ?_ ?_ <;> intro hb <;> (try simp only [zH] at hb))
            | ((with_reducible refine isRegS 22 ?_ ?_); (· exact rfl); (first | refine awp_textM htb hmz spMb_ok (fun _ => false) rfl rfl ?_ | refine awp_drawM hmo htb hmz spMb_ok (fun _ => false) rfl rfl (by kernel_rfl) ?_); intro m' e' l' ob h; simp only [zE0, zE1, zE2, zE3, zE4, zE5, evp, evx, ev1, evLoad, evStore, evBin, isBoolK, forall_const, z38, tb, Nat.reduceAdd, Nat.reduceSub, Nat.reduceMul, Nat.reduceEqDiff, Nat.reduceLeDiff, Nat.reduceLT, Nat.reduceBEq, Nat.reduceBNe, ↓reduceIte, reduceIte, svA, spMb, membersS] at h; obtain ⟨rfl, rfl, rfl, rfl⟩ := h; refine ⟨?_, ?_⟩)
            | ((with_reducible refine Ob.mk ?_); first | exact trivial | (intros; omega) | ((repeat' first | apply And.intro | (intro hg; have hg' := hg; try simp only [zH] at hg')) <;> first | (with_reducible exact True.intro) | assumption | omega | (simp only [zH]; omega)))
          · rw [mget_mput, if_pos rfl] at hb
            refine back ⟨t.L, mput u (mget u (e1) - 1) (c1) (e1), mclk u (c1) (e1), t.i + 1⟩ [] ?_ ⟨⟨by dsimp only; omega, hwq⟩, by dsimp only; rw [hdn]; exact AQ_left hA hwq huq hwu hud hes hop (by show 1 < lfn x l (qo to o.length t.L) b.i ((row.take t.i).map Int.toNat) u; omega) ⟨by rw [mhas_mput, if_pos rfl], by rw [mget_mput, if_pos rfl, hg1]⟩ hnd, fun k => heb k (by omega)⟩ (by dsimp only; omega)
            (refine ⟨rfl, ?_, ?_⟩ <;> simp only [zE0, zE1, zE2, zE3, zE4, zE5, evp, evx, ev1, evLoad, evStore, evBin, isBoolK, forall_const, z38, tb, Nat.reduceAdd, Nat.reduceSub, Nat.reduceMul, Nat.reduceEqDiff, Nat.reduceLeDiff, Nat.reduceLT, Nat.reduceBEq, Nat.reduceBNe, ↓reduceIte, reduceIte, svA, spMb, membersS, zI])
          · rw [mget_mput, if_pos rfl] at hb
            refine awp_cut ([_, _, _]) ([]) rfl rfl ?_
            refine awpL_text htb hmz spMb_ok (fun _ => false) rfl rfl rfl ?_; intro m' e' l' ob h; simp only [zE0, zE1, zE2, zE3, zE4, zE5, evp, evx, ev1, evLoad, evStore, evBin, isBoolK, forall_const, z38, tb, Nat.reduceAdd, Nat.reduceSub, Nat.reduceMul, Nat.reduceEqDiff, Nat.reduceLeDiff, Nat.reduceLT, Nat.reduceBEq, Nat.reduceBNe, ↓reduceIte, reduceIte, svA, spMb, membersS] at h; obtain ⟨rfl, rfl, rfl, rfl⟩ := h; refine ⟨?_, next_then ?_⟩
            · first | ((with_reducible refine Ob.mk ?_); first | exact trivial | (intros; omega) | ((repeat' first | apply And.intro | (intro hg; have hg' := hg; try simp only [zH] at hg')) <;> first | (with_reducible exact True.intro) | assumption | omega | (simp only [zH]; omega))) | skip
            refine awpL_callG ([0, 1, 2, 3, 4]) (hT t.L u w hun) rfl rfl rfl rfl rfl rfl rfl rfl rfl (by simp only [rinR, rhoC, zE0, zE1, zE2, zE3, zE4, zE5, evp, evx, ev1, evLoad, evStore, evBin, isBoolK, forall_const, z38, tb, Nat.reduceAdd, Nat.reduceSub, Nat.reduceMul, Nat.reduceEqDiff, Nat.reduceLeDiff, Nat.reduceLT, Nat.reduceBEq, Nat.reduceBNe, ↓reduceIte, reduceIte, svA, spMb, membersS]) ?_; intro gm gv gr hq m' e' l' h; simp only [GR.mk.injEq] at hq; obtain ⟨rfl, rfl, rfl⟩ := hq; simp only [rhoC, outR, renR, dels, zE0, zE1, zE2, zE3, zE4, zE5, evp, evx, ev1, evLoad, evStore, evBin, isBoolK, forall_const, z38, tb, Nat.reduceAdd, Nat.reduceSub, Nat.reduceMul, Nat.reduceEqDiff, Nat.reduceLeDiff, Nat.reduceLT, Nat.reduceBEq, Nat.reduceBNe, ↓reduceIte, reduceIte, svA, spMb, membersS] at h; obtain ⟨rfl, rfl, rfl⟩ := h; refine next_then ?_
            refine awpL_text htb hmz spMb_ok (fun _ => false) rfl rfl rfl ?_; intro m' e' l' ob h; simp only [zE0, zE1, zE2, zE3, zE4, zE5, evp, evx, ev1, evLoad, evStore, evBin, isBoolK, forall_const, z38, tb, Nat.reduceAdd, Nat.reduceSub, Nat.reduceMul, Nat.reduceEqDiff, Nat.reduceLeDiff, Nat.reduceLT, Nat.reduceBEq, Nat.reduceBNe, ↓reduceIte, reduceIte, svA, spMb, membersS] at h; obtain ⟨rfl, rfl, rfl, rfl⟩ := h; refine ⟨?_, ?_⟩
            · first | ((with_reducible refine Ob.mk ?_); first | exact trivial | (intros; omega) | ((repeat' first | apply And.intro | (intro hg; have hg' := hg; try simp only [zH] at hg')) <;> first | (with_reducible exact True.intro) | assumption | omega | (simp only [zH]; omega))) | skip
            repeat' first
              | with_reducible first | refine awp_seq ?_ | refine awp_block ?_ | refine next_then ?_ | refine next_block ?_ | refine exit_then ?_ | refine ret_then ?_ | refine ret_block ?_ | refine exit_here ?_ | refine awp_exit ?_ | refine awp_ret ?_ | refine awp_skip ?_ | refine awp_label ?_ | refine next_noGoto ?_ | refine ret_noGoto ?_ | refine exit_noGoto ?_ | refine awp_scope ?_
              | ((with_reducible refine exit_past ?_ ?_); exact rfl)
              | ((with_reducible refine isCond ?_); refine awp_condO rfl ?_ ?_ <;> intro hb <;> (try simp only [zH] at hb))
              | ((with_reducible refine isReg ?_); (first | refine awp_textM htb hmz spMb_ok (fun _ => false) rfl rfl ?_ | refine awp_drawM hmo htb hmz spMb_ok (fun _ => false) rfl rfl (by kernel_rfl) ?_); intro m' e' l' ob h; simp only [zE0, zE1, zE2, zE3, zE4, zE5, evp, evx, ev1, evLoad, evStore, evBin, isBoolK, forall_const, z38, tb, Nat.reduceAdd, Nat.reduceSub, Nat.reduceMul, Nat.reduceEqDiff, Nat.reduceLeDiff, Nat.reduceLT, Nat.reduceBEq, Nat.reduceBNe, ↓reduceIte, reduceIte, svA, spMb, membersS] at h; obtain ⟨rfl, rfl, rfl, rfl⟩ := h; refine ⟨?_, ?_⟩)
              | ((with_reducible refine Ob.mk ?_); first | exact trivial | (intros; omega) | ((repeat' first | apply And.intro | (intro hg; have hg' := hg; try simp only [zH] at hg')) <;> first | (with_reducible exact True.intro) | assumption | omega | (simp only [zH]; omega)))
            refine back ⟨t.L ++ [(u, w)], mput u (mget u (e1) - 1) (c1) (e1), mclk u (c1) (e1), t.i + 1⟩ [(27, 98)] ?_ ⟨⟨by dsimp only; omega, qo_at hwq⟩, by dsimp only; rw [hdn]; exact AQ_take hA hwq hlu huq hwu hud hes (fun _ => by show lfn x l (qo to o.length t.L) b.i ((row.take t.i).map Int.toNat) u ≤ 1; omega) hnd, fun k => heb k (by omega)⟩ (by dsimp only; omega)
            (refine ⟨rfl, ?_, ?_⟩ <;> simp only [zE0, zE1, zE2, zE3, zE4, zE5, evp, evx, ev1, evLoad, evStore, evBin, isBoolK, forall_const, z38, tb, Nat.reduceAdd, Nat.reduceSub, Nat.reduceMul, Nat.reduceEqDiff, Nat.reduceLeDiff, Nat.reduceLT, Nat.reduceBEq, Nat.reduceBNe, ↓reduceIte, reduceIte, svA, spMb, membersS, zI])
            rw [qo_drop hwq, List.map_append]
            exact ⟨rfl, atB_set hun⟩
        · rename_i hb2 hop
          obtain ⟨hlu, huo⟩ := hb2
          have huq : u ∉ qo to o.length t.L := fun h => by rw [(atB_iff hun).2 h] at huo; cases huo
          obtain ⟨h0, h1, _⟩ := hA.c0o u hlu huq hop
          have hg1 := h1 hb
          dsimp only at h0 hg1
          have hot : ∀ u' : Nat, u' ≠ u → mhas u' t.es = mhas u' t.es ∧ mget u' t.es = mget u' t.es := fun u' hu' => ⟨rfl, rfl⟩
          have hb1 := hbd
          have hbu1 := hb1 u
          have hes : ∀ u' : Nat, u' ≠ u → mhas u' (mput u (mget u (t.es) - 1) (t.c) (t.es)) = mhas u' t.es ∧ mget u' (mput u (mget u (t.es) - 1) (t.c) (t.es)) = mget u' t.es := fun u' hu' => ⟨(mhas_mput.trans (if_neg (by omega))).trans (hot u' hu').1, (mget_mput.trans (if_neg (by omega))).trans (hot u' hu').2⟩
          have heb : ∀ k : Nat, 0 ≤ mget u (t.es) - 1 → 0 ≤ mget k (mput u (mget u (t.es) - 1) (t.c) (t.es)) ∧ mget k (mput u (mget u (t.es) - 1) (t.c) (t.es)) ≤ 64 := fun k h0 => by
            rw [mget_mput]
            split
            · omega
            · exact hb1 k
          repeat' first
            | with_reducible first | refine awp_seq ?_ | refine awp_block ?_ | refine next_then ?_ | refine next_block ?_ | refine exit_then ?_ | refine ret_then ?_ | refine ret_block ?_ | refine exit_here ?_ | refine awp_exit ?_ | refine awp_ret ?_ | refine awp_skip ?_ | refine awp_label ?_ | refine next_noGoto ?_ | refine ret_noGoto ?_ | refine exit_noGoto ?_ | refine awp_scope ?_
            | ((with_reducible refine exit_past ?_ ?_); exact rfl)
            | ((with_reducible refine isCond ?_); refine awp_condO rfl ?_ ?_ <;> intro hb <;> (try simp only [zH] at hb))
            | ((with_reducible refine isRegS 22 ?_ ?_); (· exact rfl); (first | refine awp_textM htb hmz spMb_ok (fun _ => false) rfl rfl ?_ | refine awp_drawM hmo htb hmz spMb_ok (fun _ => false) rfl rfl (by kernel_rfl) ?_); intro m' e' l' ob h; simp only [zE0, zE1, zE2, zE3, zE4, zE5, evp, evx, ev1, evLoad, evStore, evBin, isBoolK, forall_const, z38, tb, Nat.reduceAdd, Nat.reduceSub, Nat.reduceMul, Nat.reduceEqDiff, Nat.reduceLeDiff, Nat.reduceLT, Nat.reduceBEq, Nat.reduceBNe, ↓reduceIte, reduceIte, svA, spMb, membersS] at h; obtain ⟨rfl, rfl, rfl, rfl⟩ := h; refine ⟨?_, ?_⟩)
            | ((with_reducible refine Ob.mk ?_); first | exact trivial | (intros; omega) | ((repeat' first | apply And.intro | (intro hg; have hg' := hg; try simp only [zH] at hg')) <;> first | (with_reducible exact True.intro) | assumption | omega | (simp only [zH]; omega)))
          · rw [mget_mput, if_pos rfl] at hb
            refine back ⟨t.L, mput u (mget u (t.es) - 1) (t.c) (t.es), mclk u (t.c) (t.es), t.i + 1⟩ [] ?_ ⟨⟨by dsimp only; omega, hwq⟩, by dsimp only; rw [hdn]; exact AQ_left hA hwq huq hwu hud hes hop (by show 1 < lfn x l (qo to o.length t.L) b.i ((row.take t.i).map Int.toNat) u; omega) ⟨by rw [mhas_mput, if_pos rfl], by rw [mget_mput, if_pos rfl, hg1]⟩ hnd, fun k => heb k (by omega)⟩ (by dsimp only; omega)
            (refine ⟨rfl, ?_, ?_⟩ <;> simp only [zE0, zE1, zE2, zE3, zE4, zE5, evp, evx, ev1, evLoad, evStore, evBin, isBoolK, forall_const, z38, tb, Nat.reduceAdd, Nat.reduceSub, Nat.reduceMul, Nat.reduceEqDiff, Nat.reduceLeDiff, Nat.reduceLT, Nat.reduceBEq, Nat.reduceBNe, ↓reduceIte, reduceIte, svA, spMb, membersS, zI])
          · rw [mget_mput, if_pos rfl] at hb
            refine awp_cut ([_, _, _]) ([]) rfl rfl ?_
            refine awpL_text htb hmz spMb_ok (fun _ => false) rfl rfl rfl ?_; intro m' e' l' ob h; simp only [zE0, zE1, zE2, zE3, zE4, zE5, evp, evx, ev1, evLoad, evStore, evBin, isBoolK, forall_const, z38, tb, Nat.reduceAdd, Nat.reduceSub, Nat.reduceMul, Nat.reduceEqDiff, Nat.reduceLeDiff, Nat.reduceLT, Nat.reduceBEq, Nat.reduceBNe, ↓reduceIte, reduceIte, svA, spMb, membersS] at h; obtain ⟨rfl, rfl, rfl, rfl⟩ := h; refine ⟨?_, next_then ?_⟩
            · first | ((with_reducible refine Ob.mk ?_); first | exact trivial | (intros; omega) | ((repeat' first | apply And.intro | (intro hg; have hg' := hg; try simp only [zH] at hg')) <;> first | (with_reducible exact True.intro) | assumption | omega | (simp only [zH]; omega))) | skip
            refine awpL_callG ([0, 1, 2, 3, 4]) (hT t.L u w hun) rfl rfl rfl rfl rfl rfl rfl rfl rfl (by simp only [rinR, rhoC, zE0, zE1, zE2, zE3, zE4, zE5, evp, evx, ev1, evLoad, evStore, evBin, isBoolK, forall_const, z38, tb, Nat.reduceAdd, Nat.reduceSub, Nat.reduceMul, Nat.reduceEqDiff, Nat.reduceLeDiff, Nat.reduceLT, Nat.reduceBEq, Nat.reduceBNe, ↓reduceIte, reduceIte, svA, spMb, membersS]) ?_; intro gm gv gr hq m' e' l' h; simp only [GR.mk.injEq] at hq; obtain ⟨rfl, rfl, rfl⟩ := hq; simp only [rhoC, outR, renR, dels, zE0, zE1, zE2, zE3, zE4, zE5, evp, evx, ev1, evLoad, evStore, evBin, isBoolK, forall_const, z38, tb, Nat.reduceAdd, Nat.reduceSub, Nat.reduceMul, Nat.reduceEqDiff, Nat.reduceLeDiff, Nat.reduceLT, Nat.reduceBEq, Nat.reduceBNe, ↓reduceIte, reduceIte, svA, spMb, membersS] at h; obtain ⟨rfl, rfl, rfl⟩ := h; refine next_then ?_
            refine awpL_text htb hmz spMb_ok (fun _ => false) rfl rfl rfl ?_; intro m' e' l' ob h; simp only [zE0, zE1, zE2, zE3, zE4, zE5, evp, evx, ev1, evLoad, evStore, evBin, isBoolK, forall_const, z38, tb, Nat.reduceAdd, Nat.reduceSub, Nat.reduceMul, Nat.reduceEqDiff, Nat.reduceLeDiff, Nat.reduceLT, Nat.reduceBEq, Nat.reduceBNe, ↓reduceIte, reduceIte, svA, spMb, membersS] at h; obtain ⟨rfl, rfl, rfl, rfl⟩ := h; refine ⟨?_, ?_⟩
            · first | ((with_reducible refine Ob.mk ?_); first | exact trivial | (intros; omega) | ((repeat' first | apply And.intro | (intro hg; have hg' := hg; try simp only [zH] at hg')) <;> first | (with_reducible exact True.intro) | assumption | omega | (simp only [zH]; omega))) | skip
            repeat' first
              | with_reducible first | refine awp_seq ?_ | refine awp_block ?_ | refine next_then ?_ | refine next_block ?_ | refine exit_then ?_ | refine ret_then ?_ | refine ret_block ?_ | refine exit_here ?_ | refine awp_exit ?_ | refine awp_ret ?_ | refine awp_skip ?_ | refine awp_label ?_ | refine next_noGoto ?_ | refine ret_noGoto ?_ | refine exit_noGoto ?_ | refine awp_scope ?_
              | ((with_reducible refine exit_past ?_ ?_); exact rfl)
              | ((with_reducible refine isCond ?_); refine awp_condO rfl ?_ ?_ <;> intro hb <;> (try simp only [zH] at hb))
              | ((with_reducible refine isReg ?_); (first | refine awp_textM htb hmz spMb_ok (fun _ => false) rfl rfl ?_ | refine awp_drawM hmo htb hmz spMb_ok (fun _ => false) rfl rfl (by kernel_rfl) ?_); intro m' e' l' ob h; simp only [zE0, zE1, zE2, zE3, zE4, zE5, evp, evx, ev1, evLoad, evStore, evBin, isBoolK, forall_const, z38, tb, Nat.reduceAdd, Nat.reduceSub, Nat.reduceMul, Nat.reduceEqDiff, Nat.reduceLeDiff, Nat.reduceLT, Nat.reduceBEq, Nat.reduceBNe, ↓reduceIte, reduceIte, svA, spMb, membersS] at h; obtain ⟨rfl, rfl, rfl, rfl⟩ := h; refine ⟨?_, ?_⟩)
              | ((with_reducible refine Ob.mk ?_); first | exact trivial | (intros; omega) | ((repeat' first | apply And.intro | (intro hg; have hg' := hg; try simp only [zH] at hg')) <;> first | (with_reducible exact True.intro) | assumption | omega | (simp only [zH]; omega)))
            refine back ⟨t.L ++ [(u, w)], mput u (mget u (t.es) - 1) (t.c) (t.es), mclk u (t.c) (t.es), t.i + 1⟩ [(27, 92)] ?_ ⟨⟨by dsimp only; omega, qo_at hwq⟩, by dsimp only; rw [hdn]; exact AQ_take hA hwq hlu huq hwu hud hes (fun _ => by show lfn x l (qo to o.length t.L) b.i ((row.take t.i).map Int.toNat) u ≤ 1; omega) hnd, fun k => heb k (by omega)⟩ (by dsimp only; omega)
            (refine ⟨rfl, ?_, ?_⟩ <;> simp only [zE0, zE1, zE2, zE3, zE4, zE5, evp, evx, ev1, evLoad, evStore, evBin, isBoolK, forall_const, z38, tb, Nat.reduceAdd, Nat.reduceSub, Nat.reduceMul, Nat.reduceEqDiff, Nat.reduceLeDiff, Nat.reduceLT, Nat.reduceBEq, Nat.reduceBNe, ↓reduceIte, reduceIte, svA, spMb, membersS, zI])
            rw [qo_drop hwq, List.map_append]
            exact ⟨rfl, atB_set hun⟩
        · rename_i hb2
          have huq : u ∉ qo to o.length t.L := fun h => by rw [(atB_iff hun).2 h] at hb2; cases hb2.2
          refine awp_cut ([_, _, _]) ([]) rfl rfl ?_
          refine awpL_text htb hmz spMb_ok (fun _ => false) rfl rfl rfl ?_; intro m' e' l' ob h; simp only [zE0, zE1, zE2, zE3, zE4, zE5, evp, evx, ev1, evLoad, evStore, evBin, isBoolK, forall_const, z38, tb, Nat.reduceAdd, Nat.reduceSub, Nat.reduceMul, Nat.reduceEqDiff, Nat.reduceLeDiff, Nat.reduceLT, Nat.reduceBEq, Nat.reduceBNe, ↓reduceIte, reduceIte, svA, spMb, membersS] at h; obtain ⟨rfl, rfl, rfl, rfl⟩ := h; refine ⟨?_, next_then ?_⟩
          · first | ((with_reducible refine Ob.mk ?_); first | exact trivial | (intros; omega) | ((repeat' first | apply And.intro | (intro hg; have hg' := hg; try simp only [zH] at hg')) <;> first | (with_reducible exact True.intro) | assumption | omega | (simp only [zH]; omega))) | skip
          refine awpL_callG ([0, 1, 2, 3, 4]) (hT t.L u w hun) rfl rfl rfl rfl rfl rfl rfl rfl rfl (by simp only [rinR, rhoC, zE0, zE1, zE2, zE3, zE4, zE5, evp, evx, ev1, evLoad, evStore, evBin, isBoolK, forall_const, z38, tb, Nat.reduceAdd, Nat.reduceSub, Nat.reduceMul, Nat.reduceEqDiff, Nat.reduceLeDiff, Nat.reduceLT, Nat.reduceBEq, Nat.reduceBNe, ↓reduceIte, reduceIte, svA, spMb, membersS]) ?_; intro gm gv gr hq m' e' l' h; simp only [GR.mk.injEq] at hq; obtain ⟨rfl, rfl, rfl⟩ := hq; simp only [rhoC, outR, renR, dels, zE0, zE1, zE2, zE3, zE4, zE5, evp, evx, ev1, evLoad, evStore, evBin, isBoolK, forall_const, z38, tb, Nat.reduceAdd, Nat.reduceSub, Nat.reduceMul, Nat.reduceEqDiff, Nat.reduceLeDiff, Nat.reduceLT, Nat.reduceBEq, Nat.reduceBNe, ↓reduceIte, reduceIte, svA, spMb, membersS] at h; obtain ⟨rfl, rfl, rfl⟩ := h; refine next_then ?_
          refine awpL_text htb hmz spMb_ok (fun _ => false) rfl rfl rfl ?_; intro m' e' l' ob h; simp only [zE0, zE1, zE2, zE3, zE4, zE5, evp, evx, ev1, evLoad, evStore, evBin, isBoolK, forall_const, z38, tb, Nat.reduceAdd, Nat.reduceSub, Nat.reduceMul, Nat.reduceEqDiff, Nat.reduceLeDiff, Nat.reduceLT, Nat.reduceBEq, Nat.reduceBNe, ↓reduceIte, reduceIte, svA, spMb, membersS] at h; obtain ⟨rfl, rfl, rfl, rfl⟩ := h; refine ⟨?_, ?_⟩
          · first | ((with_reducible refine Ob.mk ?_); first | exact trivial | (intros; omega) | ((repeat' first | apply And.intro | (intro hg; have hg' := hg; try simp only [zH] at hg')) <;> first | (with_reducible exact True.intro) | assumption | omega | (simp only [zH]; omega))) | skip
          repeat' first
            | with_reducible first | refine awp_seq ?_ | refine awp_block ?_ | refine next_then ?_ | refine next_block ?_ | refine exit_then ?_ | refine ret_then ?_ | refine ret_block ?_ | refine exit_here ?_ | refine awp_exit ?_ | refine awp_ret ?_ | refine awp_skip ?_ | refine awp_label ?_ | refine next_noGoto ?_ | refine ret_noGoto ?_ | refine exit_noGoto ?_ | refine awp_scope ?_
            | ((with_reducible refine exit_past ?_ ?_); exact rfl)
            | ((with_reducible refine isCond ?_); refine awp_condO rfl ?_ ?_ <;> intro hb <;> (try simp only [zH] at hb))
            | ((with_reducible refine isReg ?_); (first | refine awp_textM htb hmz spMb_ok (fun _ => false) rfl rfl ?_ | refine awp_drawM hmo htb hmz spMb_ok (fun _ => false) rfl rfl (by kernel_rfl) ?_); intro m' e' l' ob h; simp only [zE0, zE1, zE2, zE3, zE4, zE5, evp, evx, ev1, evLoad, evStore, evBin, isBoolK, forall_const, z38, tb, Nat.reduceAdd, Nat.reduceSub, Nat.reduceMul, Nat.reduceEqDiff, Nat.reduceLeDiff, Nat.reduceLT, Nat.reduceBEq, Nat.reduceBNe, ↓reduceIte, reduceIte, svA, spMb, membersS] at h; obtain ⟨rfl, rfl, rfl, rfl⟩ := h; refine ⟨?_, ?_⟩)
            | ((with_reducible refine Ob.mk ?_); first | exact trivial | (intros; omega) | ((repeat' first | apply And.intro | (intro hg; have hg' := hg; try simp only [zH] at hg')) <;> first | (with_reducible exact True.intro) | assumption | omega | (simp only [zH]; omega)))
          refine back ⟨t.L ++ [(u, w)], t.es, t.c, t.i + 1⟩ [(27, 73)] ?_ ⟨⟨by dsimp only; omega, qo_at hwq⟩, by dsimp only; rw [hdn]; exact AQ_take hA hwq hb2.1 huq hwu hud (fun u' _ => ⟨rfl, rfl⟩) (fun h => absurd hb h) hnd, hbd⟩ (by dsimp only; omega)
          (refine ⟨rfl, ?_, ?_⟩ <;> simp only [zE0, zE1, zE2, zE3, zE4, zE5, evp, evx, ev1, evLoad, evStore, evBin, isBoolK, forall_const, z38, tb, Nat.reduceAdd, Nat.reduceSub, Nat.reduceMul, Nat.reduceEqDiff, Nat.reduceLeDiff, Nat.reduceLT, Nat.reduceBEq, Nat.reduceBNe, ↓reduceIte, reduceIte, svA, spMb, membersS, zI])
          rw [qo_drop hwq, List.map_append]
          exact ⟨rfl, atB_set hun⟩
        · exfalso; omega
      · have hje : t.i = row.length := by omega
        repeat' first
          | with_reducible first | refine awp_seq ?_ | refine awp_block ?_ | refine next_then ?_ | refine next_block ?_ | refine exit_then ?_ | refine ret_then ?_ | refine ret_block ?_ | refine exit_here ?_ | refine awp_exit ?_ | refine awp_ret ?_ | refine awp_skip ?_ | refine awp_label ?_ | refine next_noGoto ?_ | refine ret_noGoto ?_ | refine exit_noGoto ?_ | refine awp_scope ?_
          | ((with_reducible refine exit_past ?_ ?_); exact rfl)
          | ((with_reducible refine isCond ?_); refine awp_condO rfl ?_ ?_ <;> intro hb <;> (try simp only [zH] at hb))
          | ((with_reducible refine isRegS 13 ?_ ?_); (· exact rfl); (first | refine awp_textM htb hmz spMb_ok (fun _ => false) rfl rfl ?_ | refine awp_drawM hmo htb hmz spMb_ok (fun _ => false) rfl rfl (by kernel_rfl) ?_); intro m' e' l' ob h; simp only [zE0, zE1, zE2, zE3, zE4, zE5, evp, evx, ev1, evLoad, evStore, evBin, isBoolK, forall_const, z38, tb, Nat.reduceAdd, Nat.reduceSub, Nat.reduceMul, Nat.reduceEqDiff, Nat.reduceLeDiff, Nat.reduceLT, Nat.reduceBEq, Nat.reduceBNe, ↓reduceIte, reduceIte, svA, spMb, membersS] at h; obtain ⟨rfl, rfl, rfl, rfl⟩ := h; refine ⟨?_, ?_⟩)
          | ((with_reducible refine Ob.mk ?_); first | exact trivial | (intros; omega) | ((repeat' first | apply And.intro | (intro hg; have hg' := hg; try simp only [zH] at hg')) <;> first | (with_reducible exact True.intro) | assumption | omega | (simp only [zH]; omega)))
        · exfalso; omega
        refine back ⟨t.L, t.es, t.c, b.i + 1⟩ [(15, 27)] ?_ ⟨AQ_end hA hwq fun u hwu => ?_, hbd⟩ (by dsimp only; omega)
        · (refine ⟨rfl, ?_, ?_⟩ <;> simp only [zE0, zE1, zE2, zE3, zE4, zE5, evp, evx, ev1, evLoad, evStore, evBin, isBoolK, forall_const, z38, tb, Nat.reduceAdd, Nat.reduceSub, Nat.reduceMul, Nat.reduceEqDiff, Nat.reduceLeDiff, Nat.reduceLT, Nat.reduceBEq, Nat.reduceBNe, ↓reduceIte, reduceIte, svA, spMb, membersS, zI])
        · rw [hje, List.take_length]
          exact hba u (by have : u < x.length := sc_in hwu; omega) hwu
  · intro t h; exact h.elim
set_option maxRecDepth 4000 in
set_option maxHeartbeats 4000000 in
theorem attract2_fg {o p : List Int} {x : List (List Int)} {left pl : Int} {to l : List Bool} {W C : List (Nat × Nat) → List Int} {pt : Int} (hV : Valid ⟨o, p, x⟩) (htl : to.length = o.length) (hll : l.length = o.length)
    (hto : ∀ u, u ∈ kp to o.length → l.getD u false = true) (hTr : ∀ u, l.getD u false = true → ∃ t, t ∈ sc x u ∧ l.getD t false = true)
    (hT : ∀ L v w, v < o.length → FG Try.prog 50 [.int .i64 (v : Nat), .int .i64 (w : Nat), .own 3, .own 4] [(0, some (.box (svA o p x (backL x) left 1 2))), (1, some (.ints (W L))), (2, some (.ints (C L))), (3, some (.box (.own 0))), (4, some (.box (.int .i64 pt)))] 5 fun g => g = ⟨5, resV [], [(0, some (.box (svA o p x (backL x) left 1 2))), (1, some (.ints (W (L ++ [(v, w)])))), (2, some (.ints (C (L ++ [(v, w)])))), (3, some (.box (.own 0))), (4, some (.box (.int .i64 pt)))]⟩) :
    FG Try.prog 46 [.own 0, .int .i64 pl, .roB to, .roB l, .fn 50 (.cons (.own 3) (.cons (.own 4) .nil))] [(0, some (.box (svA o p x (backL x) left 1 2))), (1, some (.ints (W []))), (2, some (.ints (C []))), (3, some (.box (.own 0))), (4, some (.box (.int .i64 pt)))] 5
      fun g => ∃ L es, AQ ⟨o, p, x⟩ pl to l L es (qo to o.length L).length [] ∧ g = ⟨5, .roB (atB to o.length L), [(0, some (.box (svA o p x (backL x) left 1 2))), (1, some (.ints (W L))), (2, some (.ints (C L))), (3, some (.box (.own 0))), (4, some (.box (.int .i64 pt)))]⟩ := by
  obtain ⟨b, hb0⟩ : ∃ b : AS, b = ⟨[], [], 0, 0⟩ := ⟨_, rfl⟩
  refine fg_of htb (fn := Try.f46) (by kernel_rfl) (by kernel_rfl) rfl (Nat.le_of_ble_eq_true rfl) fun hl => ?_
  simp only [lenP, mkL, lim] at hl
  have hkl := kp_len (k := to) (n := to.length)
  obtain ⟨hn, hpl, hxl, hpos⟩ := id hV
  simp only [Gm.n] at hn hpl hxl
  obtain ⟨F0, hF0⟩ : ∃ F : Nat → List Bool, F = stB to fun _ => true := ⟨_, rfl⟩
  have hF0l : ∀ i, (F0 i).length = to.length := fun i => by rw [hF0]; exact stB_len
  have hF0n : ∀ i, i < (kp to to.length).length → (F0 i).set ((kp to to.length).getD i 0) true = F0 (i + 1) := fun i h => by rw [hF0]; exact stB_next h
  repeat' first
    | with_reducible first | refine awp_seq ?_ | refine awp_block ?_ | refine next_then ?_ | refine next_block ?_ | refine exit_then ?_ | refine ret_then ?_ | refine ret_block ?_ | refine exit_here ?_ | refine awp_exit ?_ | refine awp_ret ?_ | refine awp_skip ?_ | refine awp_label ?_ | refine next_noGoto ?_ | refine ret_noGoto ?_ | refine exit_noGoto ?_ | refine awp_scope ?_
    | ((with_reducible refine exit_past ?_ ?_); exact rfl)
    | ((with_reducible refine isCond ?_); refine awp_condO rfl ?_ ?_ <;> intro hb <;> (try simp only [zH] at hb))
    | ((with_reducible refine isReg ?_); (first | refine awp_textM htb hmz spMb_ok (fun _ => false) rfl rfl ?_ | refine awp_drawM hmo htb hmz spMb_ok (fun _ => false) rfl rfl (by kernel_rfl) ?_); intro m' e' l' ob h; simp only [zE0, zE1, zE2, zE3, zE4, zE5, evp, evx, ev1, evLoad, evStore, evBin, isBoolK, forall_const, z38, tb, Nat.reduceAdd, Nat.reduceSub, Nat.reduceMul, Nat.reduceEqDiff, Nat.reduceLeDiff, Nat.reduceLT, Nat.reduceBEq, Nat.reduceBNe, ↓reduceIte, reduceIte, svA, spMb, membersS] at h; obtain ⟨rfl, rfl, rfl, rfl⟩ := h; refine ⟨?_, ?_⟩)
    | ((with_reducible refine Ob.mk ?_); first | exact trivial | (intros; omega) | ((repeat' first | apply And.intro | (intro hg; have hg' := hg; try simp only [zH] at hg')) <;> first | (with_reducible exact True.intro) | assumption | omega | (simp only [zH]; omega)))
  refine awp_nilbox 11 (.ints []) (.own 14) rfl rfl rfl (by first | exact .inl rfl | exact .inr (.inl rfl) | exact .inr (.inr (.inl rfl)) | exact .inr (.inr (.inr rfl))) (by simp only [lkr_cons, lkr_nil, fzE, fzA, fzR, fzB, set1, nbeq, Nat.reduceEqDiff, decide_true, decide_false, ↓reduceIte, reduceIte, cond_true, cond_false, List.take_length, Option.some.injEq] <;> rfl) rfl ?_
  refine awp_leC ⟨16, [(24, .fn 41 (.cons (.rop (.roB to)) .nil)), (12, .own 11), (11, .own 9), (0, .own 0), (1, .int .i64 pl), (3, .roB l), (4, .fn 50 (.cons (.own 3) (.cons (.own 4) .nil)))], [(11, some (.box (.own 15))), (15, some (.ints [])), (9, some (.box (.own 8))), (8, some (.bools (F0 0))), (0, some (.box (svA o p x (backL x) left 1 2))), (1, some (.ints (W b.L))), (2, some (.ints (C b.L))), (3, some (.box (.own 0))), (4, some (.box (.int .i64 pt)))], []⟩ [(15, 14)] ?_ ?_
  · (refine ⟨rfl, ?_, ?_⟩ <;> simp only [zE0, zE1, zE2, zE3, zE4, zE5, evp, evx, ev1, evLoad, evStore, evBin, isBoolK, forall_const, z38, tb, Nat.reduceAdd, Nat.reduceSub, Nat.reduceMul, Nat.reduceEqDiff, Nat.reduceLeDiff, Nat.reduceLT, Nat.reduceBEq, Nat.reduceBNe, ↓reduceIte, reduceIte, svA, spMb, membersS, zI])
    subst hb0
    refine ⟨?_, rfl, rfl⟩
    rw [hF0, hll, ← htl]
    exact stB_zero
  refine awp_rangeV (m := 15) (M := 16) (fun i => i ≤ (kp to to.length).length) (fun _ : Nat => False) (fun i => (((kp to to.length).getD i 0 : Nat) : Int)) (fun i => i < (kp to to.length).length) (fun i i' => i' = i + 1) (fun i => i = 0) (fun i => i = (kp to to.length).length) .ret (fun i => [(11, some (.box (.own 15))), (15, some (.ints (((kp to to.length).take i).map fun v : Nat => (v : Int)))), (9, some (.box (.own 8))), (8, some (.bools (F0 i))), (0, some (.box (svA o p x (backL x) left 1 2))), (1, some (.ints (W b.L))), (2, some (.ints (C b.L))), (3, some (.box (.own 0))), (4, some (.box (.int .i64 pt)))]) [] 0 (members1_iter to _ _ id fun t h => h) (Nat.zero_le _) rfl rfl rfl rfl rfl rfl rfl (fun k hk => by cases hk) (fun t k _ _ hk => sV_mem (M := 16) (l := [(11, some (.box (.own 15))), (15, some (.ints (((kp to to.length).take t).map fun v : Nat => (v : Int)))), (9, some (.box (.own 8))), (8, some (.bools (F0 t))), (0, some (.box (svA o p x (backL x) left 1 2))), (1, some (.ints (W b.L))), (2, some (.ints (C b.L))), (3, some (.box (.own 0))), (4, some (.box (.int .i64 pt)))]) ⟨⟨rfl, rfl⟩, ⟨rfl, trivial⟩, ⟨rfl, rfl⟩, ⟨rfl, trivial⟩, ⟨rfl, rfl⟩, ⟨rfl, trivial⟩, ⟨rfl, trivial⟩, ⟨rfl, rfl⟩, ⟨rfl, rfl⟩, trivial⟩ k _ hk) ?_ ?_ ?_
  · intro lp i hi hg
    obtain ⟨hv1, hv2⟩ := kp_at' hg
    have hFn1 := hF0n i hg
    have hkt : ((kp to to.length).take (i + 1)).map (fun v : Nat => (v : Int)) = ((kp to to.length).take i).map (fun v : Nat => (v : Int)) ++ [(((kp to to.length).getD i 0 : Nat) : Int)] := by rw [take1 (d := 0) hg, List.map_append]; rfl
    have hkq : (((kp to to.length).take i).map (fun v : Nat => (v : Int))).length ≤ to.length := by rw [List.length_map, List.length_take]; omega
    generalize hvv : (kp to to.length).getD i 0 = v at *
    have hFi := hF0l i
    first | (refine awp_textM htb hmz spMb_ok (fun _ => false) rfl rfl ?_; intro m' e' l' ob h; simp only [zE0, zE1, zE2, zE3, zE4, zE5, evp, evx, ev1, evLoad, evStore, evBin, isBoolK, forall_const, z38, tb, Nat.reduceAdd, Nat.reduceSub, Nat.reduceMul, Nat.reduceEqDiff, Nat.reduceLeDiff, Nat.reduceLT, Nat.reduceBEq, Nat.reduceBNe, ↓reduceIte, reduceIte, svA, spMb, membersS] at h; obtain ⟨rfl, rfl, rfl, rfl⟩ := h; refine ⟨?_, ?_⟩)
          | (refine awp_drawM hmo htb hmz spMb_ok (fun _ => false) rfl rfl (by kernel_rfl) ?_; intro m' e' l' ob h; simp only [zE0, zE1, zE2, zE3, zE4, zE5, evp, evx, ev1, evLoad, evStore, evBin, isBoolK, forall_const, z38, tb, Nat.reduceAdd, Nat.reduceSub, Nat.reduceMul, Nat.reduceEqDiff, Nat.reduceLeDiff, Nat.reduceLT, Nat.reduceBEq, Nat.reduceBNe, ↓reduceIte, reduceIte, svA, spMb, membersS] at h; obtain ⟨rfl, rfl, rfl, rfl⟩ := h; refine ⟨?_, ?_⟩)
    · first | ((with_reducible refine Ob.mk ?_); first | exact trivial | (intros; omega) | ((repeat' first | apply And.intro | (intro hg; have hg' := hg; try simp only [zH] at hg')) <;> first | assumption | omega | (simp only [zH]; omega))) | skip
    refine ⟨rfl, ?_⟩
    repeat' first
      | with_reducible first | refine awp_seq ?_ | refine awp_block ?_ | refine next_then ?_ | refine next_block ?_ | refine exit_then ?_ | refine ret_then ?_ | refine ret_block ?_ | refine exit_here ?_ | refine awp_exit ?_ | refine awp_ret ?_ | refine awp_skip ?_ | refine awp_label ?_ | refine next_noGoto ?_ | refine ret_noGoto ?_ | refine exit_noGoto ?_ | refine awp_scope ?_
      | ((with_reducible refine exit_past ?_ ?_); exact rfl)
      | ((with_reducible refine isCond ?_); refine awp_condO rfl ?_ ?_ <;> intro hb <;> (try simp only [zH] at hb))
      | ((with_reducible refine isReg ?_); (first | refine awp_textM htb hmz spMb_ok (fun _ => false) rfl rfl ?_ | refine awp_drawM hmo htb hmz spMb_ok (fun _ => false) rfl rfl (by kernel_rfl) ?_); intro m' e' l' ob h; simp only [zE0, zE1, zE2, zE3, zE4, zE5, evp, evx, ev1, evLoad, evStore, evBin, isBoolK, forall_const, z38, tb, Nat.reduceAdd, Nat.reduceSub, Nat.reduceMul, Nat.reduceEqDiff, Nat.reduceLeDiff, Nat.reduceLT, Nat.reduceBEq, Nat.reduceBNe, ↓reduceIte, reduceIte, svA, spMb, membersS] at h; obtain ⟨rfl, rfl, rfl, rfl⟩ := h; refine ⟨?_, ?_⟩)
      | ((with_reducible refine Ob.mk ?_); first | exact trivial | (intros; omega) | ((repeat' first | apply And.intro | (intro hg; have hg' := hg; try simp only [zH] at hg')) <;> first | (with_reducible exact True.intro) | assumption | omega | (simp only [zH]; omega)))
    refine ⟨_, i + 1, [(15, 24)], rfl, ?_, .inl ⟨rfl, hg, rfl⟩⟩
    (refine ⟨rfl, ?_, ?_⟩ <;> simp only [zE0, zE1, zE2, zE3, zE4, zE5, evp, evx, ev1, evLoad, evStore, evBin, isBoolK, forall_const, z38, tb, Nat.reduceAdd, Nat.reduceSub, Nat.reduceMul, Nat.reduceEqDiff, Nat.reduceLeDiff, Nat.reduceLT, Nat.reduceBEq, Nat.reduceBNe, ↓reduceIte, reduceIte, svA, spMb, membersS, zI])
    exact ⟨hkt.symm, hFn1⟩
  · intro i hi hfin
    have hfin : i = (kp to to.length).length := hfin
    repeat' first
      | with_reducible first | refine awp_seq ?_ | refine awp_block ?_ | refine next_then ?_ | refine next_block ?_ | refine exit_then ?_ | refine ret_then ?_ | refine ret_block ?_ | refine exit_here ?_ | refine awp_exit ?_ | refine awp_ret ?_ | refine awp_skip ?_ | refine awp_label ?_ | refine next_noGoto ?_ | refine ret_noGoto ?_ | refine exit_noGoto ?_ | refine awp_scope ?_
      | ((with_reducible refine exit_past ?_ ?_); exact rfl)
      | ((with_reducible refine isCond ?_); refine awp_condO rfl ?_ ?_ <;> intro hb <;> (try simp only [zH] at hb))
      | ((with_reducible refine isRegS 8 ?_ ?_); (· exact rfl); (first | refine awp_textM htb hmz spMb_ok (fun _ => false) rfl rfl ?_ | refine awp_drawM hmo htb hmz spMb_ok (fun _ => false) rfl rfl (by kernel_rfl) ?_); intro m' e' l' ob h; simp only [zE0, zE1, zE2, zE3, zE4, zE5, evp, evx, ev1, evLoad, evStore, evBin, isBoolK, forall_const, z38, tb, Nat.reduceAdd, Nat.reduceSub, Nat.reduceMul, Nat.reduceEqDiff, Nat.reduceLeDiff, Nat.reduceLT, Nat.reduceBEq, Nat.reduceBNe, ↓reduceIte, reduceIte, svA, spMb, membersS] at h; obtain ⟨rfl, rfl, rfl, rfl⟩ := h; refine ⟨?_, ?_⟩)
      | ((with_reducible refine Ob.mk ?_); first | exact trivial | (intros; omega) | ((repeat' first | apply And.intro | (intro hg; have hg' := hg; try simp only [zH] at hg')) <;> first | (with_reducible exact True.intro) | assumption | omega | (simp only [zH]; omega)))
    have hF0e : F0 i = atB to o.length [] := by
      rw [hF0, hfin, stB_all, htl]
      refine List.map_congr_left fun v hv => ?_
      rw [Bool.and_true, Bool.eq_iff_iff, decide_eq_true_iff]
      simp only [qo, List.map_nil, List.append_nil]
      exact ⟨fun h => List.mem_filter.2 ⟨hv, h⟩, fun h => (List.mem_filter.1 h).2⟩
    have hq0 : (kp to to.length).take i = qo to o.length [] := by rw [hfin, List.take_length, htl]; simp [qo]
    have hA0 : AQ ⟨o, p, x⟩ pl to l [] [] 0 [] := AQ_begin hto hTr
    rw [hF0e, hq0]
    clear hF0e hq0 hF0n hF0l hF0 hfin hi hkl
    have hbL : b.L = [] := by rw [hb0]
    refine awp_loopC (τ := AS) (fun b => AQ ⟨o, p, x⟩ pl to l b.L b.es b.i [] ∧ ∀ k : Nat, 0 ≤ mget k b.es ∧ mget k b.es ≤ 64) (fun b => ⟨19, [(14, .own 17), (12, .own 11), (11, .own 9), (0, .own 0), (1, .int .i64 pl), (3, .roB l), (4, .fn 50 (.cons (.own 3) (.cons (.own 4) .nil)))], [(17, some (.mp b.es b.c)), (16, some .dfr), (11, some (.box (.own 15))), (15, some (.ints (((qo to o.length b.L).drop b.i).map fun v : Nat => (v : Int)))), (9, some (.box (.own 8))), (8, some (.bools (atB to o.length b.L))), (0, some (.box (svA o p x (backL x) left 1 2))), (1, some (.ints (W b.L))), (2, some (.ints (C b.L))), (3, some (.box (.own 0))), (4, some (.box (.int .i64 pt)))], [16]⟩) (fun b => o.length - b.i) ⟨[], [], 0, 0⟩ [] ?_ ⟨hA0, fun k => ⟨Int.le_refl 0, (by decide : (0 : Int) ≤ 64)⟩⟩ ?_
    · rw [hbL]
      (refine ⟨rfl, ?_, ?_⟩ <;> simp only [zE0, zE1, zE2, zE3, zE4, zE5, evp, evx, ev1, evLoad, evStore, evBin, isBoolK, forall_const, z38, tb, Nat.reduceAdd, Nat.reduceSub, Nat.reduceMul, Nat.reduceEqDiff, Nat.reduceLeDiff, Nat.reduceLT, Nat.reduceBEq, Nat.reduceBNe, ↓reduceIte, reduceIte, svA, spMb, membersS, zI])
    clear hA0 hbL hb0 b F0
    intro b hA
    have hql : (qo to o.length b.L).length ≤ o.length := nodup_len _ _ hA.1.nd fun u hu => lt_of_in (by omega) (hA.1.ql u hu)
    have hiq : b.i ≤ (qo to o.length b.L).length := hA.1.iq
    cases hdr : (qo to o.length b.L).drop b.i with
    | nil =>
      have hie : b.i = (qo to o.length b.L).length := by have := List.drop_eq_nil_iff.1 hdr; omega
      simp only [List.map_nil]
      repeat' first
        | with_reducible first | refine awp_seq ?_ | refine awp_block ?_ | refine next_then ?_ | refine next_block ?_ | refine exit_then ?_ | refine ret_then ?_ | refine ret_block ?_ | refine exit_here ?_ | refine awp_exit ?_ | refine awp_ret ?_ | refine awp_skip ?_ | refine awp_label ?_ | refine next_noGoto ?_ | refine ret_noGoto ?_ | refine exit_noGoto ?_ | refine awp_scope ?_
        | ((with_reducible refine exit_past ?_ ?_); exact rfl)
        | ((with_reducible refine isCond ?_); refine awp_condO rfl ?_ ?_ <;> intro hb <;> (try simp only [zH] at hb))
        | ((with_reducible refine isRegS 25 ?_ ?_); (· exact rfl); (first | refine awp_textM htb hmz spMb_ok (fun _ => false) rfl rfl ?_ | refine awp_drawM hmo htb hmz spMb_ok (fun _ => false) rfl rfl (by kernel_rfl) ?_); intro m' e' l' ob h; simp only [zE0, zE1, zE2, zE3, zE4, zE5, evp, evx, ev1, evLoad, evStore, evBin, isBoolK, forall_const, z38, tb, Nat.reduceAdd, Nat.reduceSub, Nat.reduceMul, Nat.reduceEqDiff, Nat.reduceLeDiff, Nat.reduceLT, Nat.reduceBEq, Nat.reduceBNe, ↓reduceIte, reduceIte, svA, spMb, membersS] at h; obtain ⟨rfl, rfl, rfl, rfl⟩ := h; refine ⟨?_, ?_⟩)
        | ((with_reducible refine Ob.mk ?_); first | exact trivial | (intros; omega) | ((repeat' first | apply And.intro | (intro hg; have hg' := hg; try simp only [zH] at hg')) <;> first | (with_reducible exact True.intro) | assumption | omega | (simp only [zH]; omega)))
      · simp at hb
      refine awp_fzN 8 (.roB (atB to o.length b.L)) (by simp only [lkr_cons, lkr_nil, fzE, fzA, fzR, fzB, set1, nbeq, Nat.reduceEqDiff, decide_true, decide_false, ↓reduceIte, reduceIte, cond_true, cond_false, List.take_length, Option.some.injEq]; rfl) (by first | exact rfl | (refine ⟨?_, rfl⟩; first | rfl | (intros; rfl))) (by simp only [lkr_cons, lkr_nil, fzE, fzA, fzR, fzB, set1, nbeq, Nat.reduceEqDiff, decide_true, decide_false, ↓reduceIte, reduceIte, cond_true, cond_false, List.take_length, Option.some.injEq]; rfl) (by simp only [lkr_cons, lkr_nil, fzE, fzA, fzR, fzB, set1, nbeq, Nat.reduceEqDiff, decide_true, decide_false, ↓reduceIte, reduceIte, cond_true, cond_false, List.take_length, Option.some.injEq]; rfl) ?_
      repeat' first
        | with_reducible first | refine awp_seq ?_ | refine awp_block ?_ | refine next_then ?_ | refine next_block ?_ | refine exit_then ?_ | refine ret_then ?_ | refine ret_block ?_ | refine exit_here ?_ | refine awp_exit ?_ | refine awp_ret ?_ | refine awp_skip ?_ | refine awp_label ?_ | refine next_noGoto ?_ | refine ret_noGoto ?_ | refine exit_noGoto ?_ | refine awp_scope ?_
        | ((with_reducible refine exit_past ?_ ?_); exact rfl)
        | ((with_reducible refine isCond ?_); refine awp_condO rfl ?_ ?_ <;> intro hb <;> (try simp only [zH] at hb))
        | ((with_reducible refine isReg ?_); (first | refine awp_textM htb hmz spMb_ok (fun _ => false) rfl rfl ?_ | refine awp_drawM hmo htb hmz spMb_ok (fun _ => false) rfl rfl (by kernel_rfl) ?_); intro m' e' l' ob h; simp only [zE0, zE1, zE2, zE3, zE4, zE5, evp, evx, ev1, evLoad, evStore, evBin, isBoolK, forall_const, z38, tb, Nat.reduceAdd, Nat.reduceSub, Nat.reduceMul, Nat.reduceEqDiff, Nat.reduceLeDiff, Nat.reduceLT, Nat.reduceBEq, Nat.reduceBNe, ↓reduceIte, reduceIte, svA, spMb, membersS] at h; obtain ⟨rfl, rfl, rfl, rfl⟩ := h; refine ⟨?_, ?_⟩)
        | ((with_reducible refine Ob.mk ?_); first | exact trivial | (intros; omega) | ((repeat' first | apply And.intro | (intro hg; have hg' := hg; try simp only [zH] at hg')) <;> first | assumption | omega | (simp only [zH]; omega)))
      refine ⟨_, _, rfl, rfl, fun k hk => by rw [List.mem_singleton.1 hk]; rfl, (by show [16].Nodup; decide), by show 5 ≤ 22 + 2; omega, gq_of ⟨5, .roB (atB to o.length b.L), [(0, some (.box (svA o p x (backL x) left 1 2))), (1, some (.ints (W b.L))), (2, some (.ints (C b.L))), (3, some (.box (.own 0))), (4, some (.box (.int .i64 pt)))]⟩ [] ⟨b.L, b.es, by rw [← hie]; exact hA.1, rfl⟩ rfl (imp_eq rfl) ?_⟩
      simp only [grR, zE0, zE1, zE2, zE3, zE4, zE5, evp, evx, ev1, evLoad, evStore, evBin, isBoolK, forall_const, z38, tb, Nat.reduceAdd, Nat.reduceSub, Nat.reduceMul, Nat.reduceEqDiff, Nat.reduceLeDiff, Nat.reduceLT, Nat.reduceBEq, Nat.reduceBNe, ↓reduceIte, reduceIte, svA, spMb, membersS]
    | cons w rest =>
      have hwq : (qo to o.length b.L)[b.i]? = some w := by
        have h1 : ((qo to o.length b.L).drop b.i)[0]? = some w := by rw [hdr]; rfl
        rw [List.getElem?_drop] at h1
        exact h1
      have hwn : w < o.length := lt_of_in (by omega) (hA.1.ql w (List.mem_of_getElem? hwq))
      have hrest : rest = (qo to o.length b.L).drop (b.i + 1) := by
        have h1 : ((qo to o.length b.L).drop b.i).drop 1 = rest := by rw [hdr]; rfl
        rw [List.drop_drop] at h1
        exact h1.symm
      have hrl : rest.length ≤ o.length := by rw [hrest, List.length_drop]; omega
      have hBl : (backL x).length = o.length := by simp [backL]; exact hxl
      simp only [List.map_cons]
      repeat' first
        | with_reducible first | refine awp_seq ?_ | refine awp_block ?_ | refine next_then ?_ | refine next_block ?_ | refine exit_then ?_ | refine ret_then ?_ | refine ret_block ?_ | refine exit_here ?_ | refine awp_exit ?_ | refine awp_ret ?_ | refine awp_skip ?_ | refine awp_label ?_ | refine next_noGoto ?_ | refine ret_noGoto ?_ | refine exit_noGoto ?_ | refine awp_scope ?_
        | ((with_reducible refine exit_past ?_ ?_); exact rfl)
        | ((with_reducible refine isCond ?_); refine awp_condO rfl ?_ ?_ <;> intro hb <;> (try simp only [zH] at hb))
        | ((with_reducible refine isRegS 12 ?_ ?_); (· exact rfl); (first | refine awp_textM htb hmz spMb_ok (fun _ => false) rfl rfl ?_ | refine awp_drawM hmo htb hmz spMb_ok (fun _ => false) rfl rfl (by kernel_rfl) ?_); intro m' e' l' ob h; simp only [zE0, zE1, zE2, zE3, zE4, zE5, evp, evx, ev1, evLoad, evStore, evBin, isBoolK, forall_const, z38, tb, Nat.reduceAdd, Nat.reduceSub, Nat.reduceMul, Nat.reduceEqDiff, Nat.reduceLeDiff, Nat.reduceLT, Nat.reduceBEq, Nat.reduceBNe, ↓reduceIte, reduceIte, svA, spMb, membersS] at h; obtain ⟨rfl, rfl, rfl, rfl⟩ := h; refine ⟨?_, ?_⟩)
        | ((with_reducible refine Ob.mk ?_); first | exact trivial | (intros; omega) | ((repeat' first | apply And.intro | (intro hg; have hg' := hg; try simp only [zH] at hg')) <;> first | (with_reducible exact True.intro) | assumption | omega | (simp only [zH]; omega)))
      rotate_left
      · exfalso; omega
      have hbf := back_fact hV hwn
      have hba := back_all hV hwn
      dsimp only at hbf hba
      have hrl6 : ∀ v, v < o.length → (x.getD v []).length ≤ 64 := fun v h => by
        obtain ⟨⟨a1, a2, a3, a4, _, a6⟩, _⟩ := hpos v (by simp only [Gm.n]; omega)
        exact a6
      have hrb : ∀ v, v < o.length → ∀ j, j < (x.getD v []).length → 0 ≤ (x.getD v []).getD j 0 ∧ (x.getD v []).getD j 0 < (l.length : Int) := fun v h j hj => by
        obtain ⟨_, hr⟩ := hpos v (by simp only [Gm.n]; omega)
        have h1 : (x.getD v []).getD j 0 < (o.length : Int) := (hr j hj).2.1
        exact ⟨(hr j hj).1, by omega⟩
      have hrow : ((backL x).getD w []).length ≤ 64 * o.length := by
        have h1 := back_is hV hwn
        dsimp only at h1
        rw [h1]
        exact bkI_len (fun v h => hrl6 v (by omega)) o.length (by omega)
      generalize (backL x).getD w [] = row at *
      have hq1 : List.drop 1 ((w : Int) :: rest.map fun v : Nat => (v : Int)) = ((qo to o.length b.L).drop (b.i + 1)).map fun v : Nat => (v : Int) := by rw [← hrest]; rfl
      rw [hq1]
      refine awp_loopC (τ := AS) (fun t => (t.i ≤ row.length ∧ (qo to o.length t.L)[b.i]? = some w) ∧ AQ ⟨o, p, x⟩ pl to l t.L t.es b.i ((row.take t.i).map Int.toNat) ∧ ∀ k : Nat, 0 ≤ mget k t.es ∧ mget k t.es ≤ 64) (fun t => ⟨38, [(50, .int .i64 t.i), (49, .int .i64 row.length), (48, .roI row), (15, .int .i64 w), (14, .own 17), (12, .own 11), (11, .own 9), (0, .own 0), (1, .int .i64 pl), (3, .roB l), (4, .fn 50 (.cons (.own 3) (.cons (.own 4) .nil)))], [(17, some (.mp t.es t.c)), (16, some .dfr), (11, some (.box (.own 27))), (27, some (.ints (((qo to o.length t.L).drop (b.i + 1)).map fun v : Nat => (v : Int)))), (9, some (.box (.own 8))), (8, some (.bools (atB to o.length t.L))), (0, some (.box (svA o p x (backL x) left 1 2))), (1, some (.ints (W t.L))), (2, some (.ints (C t.L))), (3, some (.box (.own 0))), (4, some (.box (.int .i64 pt)))], [16]⟩) (fun t => row.length - t.i) ⟨b.L, b.es, b.c, 0⟩ [] ?_ ⟨⟨Nat.zero_le _, hwq⟩, hA.1, hA.2⟩ ?_
      · (refine ⟨rfl, ?_, ?_⟩ <;> simp only [zE0, zE1, zE2, zE3, zE4, zE5, evp, evx, ev1, evLoad, evStore, evBin, isBoolK, forall_const, z38, tb, Nat.reduceAdd, Nat.reduceSub, Nat.reduceMul, Nat.reduceEqDiff, Nat.reduceLeDiff, Nat.reduceLT, Nat.reduceBEq, Nat.reduceBNe, ↓reduceIte, reduceIte, svA, spMb, membersS, zI])
      clear hq1 hdr hrest hwq hrl hb hql
      rintro t ⟨⟨hj, hwq⟩, hA, hbd⟩
      have hql : (qo to o.length t.L).length ≤ o.length := nodup_len _ _ hA.nd fun u hu => lt_of_in (by omega) (hA.ql u hu)
      have hiq2 : b.i < (qo to o.length t.L).length := (List.getElem?_eq_some_iff.1 hwq).1
      have hdl : (((qo to o.length t.L).drop (b.i + 1)).map fun v : Nat => (v : Int)).length ≤ o.length := by rw [List.length_map, List.length_drop]; omega
      have hal : (atB to o.length t.L).length = o.length := by simp [atB]
      by_cases hjl : t.i < row.length
      · obtain ⟨u, hu⟩ : ∃ u : Nat, row.getD t.i 0 = (u : Int) := ⟨_, (hbf t.i hjl).1⟩
        obtain ⟨_, hun, hwu, hud⟩ := hbf t.i hjl
        rw [hu, Int.toNat_natCast] at hun hwu hud
        have hdn : (row.take (t.i + 1)).map Int.toNat = (row.take t.i).map Int.toNat ++ [u] := by rw [take1 (d := 0) hjl, List.map_append, hu]; rfl
        have hnd := sc_nodup hV hun
        have hbu := hbd u
        have hwl := hA.ql w (List.mem_of_getElem? hwq)
        repeat' first
          | with_reducible first | refine awp_seq ?_ | refine awp_block ?_ | refine next_then ?_ | refine next_block ?_ | refine exit_then ?_ | refine ret_then ?_ | refine ret_block ?_ | refine exit_here ?_ | refine awp_exit ?_ | refine awp_ret ?_ | refine awp_skip ?_ | refine awp_label ?_ | refine next_noGoto ?_ | refine ret_noGoto ?_ | refine exit_noGoto ?_ | refine awp_scope ?_
          | ((with_reducible refine exit_past ?_ ?_); exact rfl)
          | ((with_reducible refine isCond ?_); refine awp_condO rfl ?_ ?_ <;> intro hb <;> (try simp only [zH] at hb))
          | ((with_reducible refine isRegS 14 ?_ ?_); (· exact rfl); (first | refine awp_textM htb hmz spMb_ok (fun _ => false) rfl rfl ?_ | refine awp_drawM hmo htb hmz spMb_ok (fun _ => false) rfl rfl (by kernel_rfl) ?_); intro m' e' l' ob h; simp only [zE0, zE1, zE2, zE3, zE4, zE5, evp, evx, ev1, evLoad, evStore, evBin, isBoolK, forall_const, z38, tb, Nat.reduceAdd, Nat.reduceSub, Nat.reduceMul, Nat.reduceEqDiff, Nat.reduceLeDiff, Nat.reduceLT, Nat.reduceBEq, Nat.reduceBNe, ↓reduceIte, reduceIte, svA, spMb, membersS] at h; obtain ⟨rfl, rfl, rfl, rfl⟩ := h; refine ⟨?_, ?_⟩)
          | ((with_reducible refine Ob.mk ?_); first | exact trivial | (intros; omega) | ((repeat' first | apply And.intro | (intro hg; have hg' := hg; try simp only [zH] at hg')) <;> first | (with_reducible exact True.intro) | assumption | omega | (simp only [zH]; omega)))
        rw [hu]
        repeat' first
          | with_reducible first | refine awp_seq ?_ | refine awp_block ?_ | refine next_then ?_ | refine next_block ?_ | refine exit_then ?_ | refine ret_then ?_ | refine ret_block ?_ | refine exit_here ?_ | refine awp_exit ?_ | refine awp_ret ?_ | refine awp_skip ?_ | refine awp_label ?_ | refine next_noGoto ?_ | refine ret_noGoto ?_ | refine exit_noGoto ?_ | refine awp_scope ?_
          | ((with_reducible refine exit_past ?_ ?_); exact rfl)
          | ((with_reducible refine isCond ?_); refine awp_condO rfl ?_ ?_ <;> intro hb <;> (try simp only [zH] at hb))
          | ((with_reducible refine isRegS 18 ?_ ?_); (· exact rfl); (with_reducible refine isRegS 19 ?_ ?_); (· exact rfl); (with_reducible refine isRegS 22 ?_ ?_); (· exact rfl); (first | refine awp_textM htb hmz spMb_ok (fun _ => false) rfl rfl ?_ | refine awp_drawM hmo htb hmz spMb_ok (fun _ => false) rfl rfl (by kernel_rfl) ?_); intro m' e' l' ob h; simp only [zE0, zE1, zE2, zE3, zE4, zE5, evp, evx, ev1, evLoad, evStore, evBin, isBoolK, forall_const, z38, tb, Nat.reduceAdd, Nat.reduceSub, Nat.reduceMul, Nat.reduceEqDiff, Nat.reduceLeDiff, Nat.reduceLT, Nat.reduceBEq, Nat.reduceBNe, ↓reduceIte, reduceIte, svA, spMb, membersS] at h; obtain ⟨rfl, rfl, rfl, rfl⟩ := h; refine ⟨?_, ?_⟩)
          | ((with_reducible refine Ob.mk ?_); first | exact trivial | (intros; omega) | ((repeat' first | apply And.intro | (intro hg; have hg' := hg; try simp only [zH] at hg')) <;> first | (with_reducible exact True.intro) | assumption | omega | (simp only [zH]; omega)))
        · refine back ⟨t.L, t.es, t.c, t.i + 1⟩ [] ?_ ⟨⟨by dsimp only; omega, hwq⟩, ?_, hbd⟩ (by dsimp only; omega)
          · (refine ⟨rfl, ?_, ?_⟩ <;> simp only [zE0, zE1, zE2, zE3, zE4, zE5, evp, evx, ev1, evLoad, evStore, evBin, isBoolK, forall_const, z38, tb, Nat.reduceAdd, Nat.reduceSub, Nat.reduceMul, Nat.reduceEqDiff, Nat.reduceLeDiff, Nat.reduceLT, Nat.reduceBEq, Nat.reduceBNe, ↓reduceIte, reduceIte, svA, spMb, membersS, zI])
          · dsimp only
            rw [hdn]
            exact AQ_skip hA hwq (hb.imp id (atB_iff hun).1)
        · rename_i hb2 hop
          obtain ⟨hlu, huo⟩ := hb2
          have huq : u ∉ qo to o.length t.L := fun h => by rw [(atB_iff hun).2 h] at huo; cases huo
          obtain ⟨h0, _, h2⟩ := hA.c0o u hlu huq hop
          have hg2 := h2 hb
          dsimp only at h0 hg2
          have h64 := hrl6 u hun
          have hlf := lfn_le (g := ⟨o, p, x⟩) (l := l) (i := b.i) (u := u) (dn := (row.take t.i).map Int.toNat) (qo to o.length t.L)
          dsimp only at hlf
          refine awp_cut ([_, _, _, _, _]) ([_]) rfl rfl ?_
          refine awpL_text htb hmz spMb_ok (fun _ => false) rfl rfl rfl ?_; intro m' e' l' ob h; simp only [zE0, zE1, zE2, zE3, zE4, zE5, evp, evx, ev1, evLoad, evStore, evBin, isBoolK, forall_const, z38, tb, Nat.reduceAdd, Nat.reduceSub, Nat.reduceMul, Nat.reduceEqDiff, Nat.reduceLeDiff, Nat.reduceLT, Nat.reduceBEq, Nat.reduceBNe, ↓reduceIte, reduceIte, svA, spMb, membersS] at h; obtain ⟨rfl, rfl, rfl, rfl⟩ := h; refine ⟨?_, next_then ?_⟩
          · first | ((with_reducible refine Ob.mk ?_); first | exact trivial | (intros; omega) | ((repeat' first | apply And.intro | (intro hg; have hg' := hg; try simp only [zH] at hg')) <;> first | (with_reducible exact True.intro) | assumption | omega | (simp only [zH]; omega))) | skip
          refine awpL_callG ([0, 1, 2]) (insd_fg (o := o) (p := p) (x := x) (B := backL x) (left := left) (W := W t.L) (C := C t.L) (l := l) (v := u) (by omega) (fun j hj => hrb u hun j hj) h64) rfl rfl rfl rfl rfl rfl rfl rfl rfl (by simp only [rinR, rhoC, zE0, zE1, zE2, zE3, zE4, zE5, evp, evx, ev1, evLoad, evStore, evBin, isBoolK, forall_const, z38, tb, Nat.reduceAdd, Nat.reduceSub, Nat.reduceMul, Nat.reduceEqDiff, Nat.reduceLeDiff, Nat.reduceLT, Nat.reduceBEq, Nat.reduceBNe, ↓reduceIte, reduceIte, svA, spMb, membersS]) ?_; intro gm gv gr hq m' e' l' h; simp only [GR.mk.injEq] at hq; obtain ⟨rfl, rfl, rfl⟩ := hq; simp only [rhoC, outR, renR, dels, zE0, zE1, zE2, zE3, zE4, zE5, evp, evx, ev1, evLoad, evStore, evBin, isBoolK, forall_const, z38, tb, Nat.reduceAdd, Nat.reduceSub, Nat.reduceMul, Nat.reduceEqDiff, Nat.reduceLeDiff, Nat.reduceLT, Nat.reduceBEq, Nat.reduceBNe, ↓reduceIte, reduceIte, svA, spMb, membersS] at h; obtain ⟨rfl, rfl, rfl⟩ := h; refine next_then ?_
          refine awpL_text htb hmz spMb_ok (fun _ => false) rfl rfl rfl ?_; intro m' e' l' ob h; simp only [zE0, zE1, zE2, zE3, zE4, zE5, evp, evx, ev1, evLoad, evStore, evBin, isBoolK, forall_const, z38, tb, Nat.reduceAdd, Nat.reduceSub, Nat.reduceMul, Nat.reduceEqDiff, Nat.reduceLeDiff, Nat.reduceLT, Nat.reduceBEq, Nat.reduceBNe, ↓reduceIte, reduceIte, svA, spMb, membersS] at h; obtain ⟨rfl, rfl, rfl, rfl⟩ := h; refine ⟨?_, ?_⟩
          · first | ((with_reducible refine Ob.mk ?_); first | exact trivial | (intros; omega) | ((repeat' first | apply And.intro | (intro hg; have hg' := hg; try simp only [zH] at hg')) <;> first | (with_reducible exact True.intro) | assumption | omega | (simp only [zH]; omega))) | skip
          have hin : inN l (x.getD u []) = inM x l u := rfl
          rw [hin, hg2]
          obtain ⟨e1, he1⟩ : ∃ e, e = mput (u : Int) (lfn x l (qo to o.length t.L) b.i ((row.take t.i).map Int.toNat) u : Int) t.c t.es := ⟨_, rfl⟩
          obtain ⟨c1, hc1⟩ : ∃ c, c = mclk (u : Int) t.c t.es := ⟨_, rfl⟩
          rw [← he1, ← hc1]
          have hg1 : mget u e1 = lfn x l (qo to o.length t.L) b.i ((row.take t.i).map Int.toNat) u := by rw [he1, mget_mput, if_pos rfl]
          have hot : ∀ u' : Nat, u' ≠ u → mhas u' e1 = mhas u' t.es ∧ mget u' e1 = mget u' t.es := fun u' hu' => by
            rw [he1]
            exact ⟨by rw [mhas_mput, if_neg (by omega)], by rw [mget_mput, if_neg (by omega)]⟩
          have hb1 : ∀ k : Nat, 0 ≤ mget k e1 ∧ mget k e1 ≤ 64 := fun k => by
            rw [he1, mget_mput]
            split
            · omega
            · exact hbd k
          have hbu1 := hb1 u
          have hes : ∀ u' : Nat, u' ≠ u → mhas u' (mput u (mget u (e1) - 1) (c1) (e1)) = mhas u' t.es ∧ mget u' (mput u (mget u (e1) - 1) (c1) (e1)) = mget u' t.es := fun u' hu' => ⟨(mhas_mput.trans (if_neg (by omega))).trans (hot u' hu').1, (mget_mput.trans (if_neg (by omega))).trans (hot u' hu').2⟩
          have heb : ∀ k : Nat, 0 ≤ mget u (e1) - 1 → 0 ≤ mget k (mput u (mget u (e1) - 1) (c1) (e1)) ∧ mget k (mput u (mget u (e1) - 1) (c1) (e1)) ≤ 64 := fun k h0 => by
            rw [mget_mput]
            split
            · omega
            · exact hb1 k
          repeat' first
            | with_reducible first | refine awp_seq ?_ | refine awp_block ?_ | refine next_then ?_ | refine next_block ?_ | refine exit_then ?_ | refine ret_then ?_ | refine ret_block ?_ | refine exit_here ?_ | refine awp_exit ?_ | refine awp_ret ?_ | refine awp_skip ?_ | refine awp_label ?_ | refine next_noGoto ?_ | refine ret_noGoto ?_ | refine exit_noGoto ?_ | refine awp_scope ?_
            | ((with_reducible refine exit_past ?_ ?_); exact rfl)
            | ((with_reducible refine isCond ?_); refine awp_condO rfl ?_ ?_ <;> intro hb <;> (try simp only [zH] at hb))
            | ((with_reducible refine isRegS 22 ?_ ?_); (· exact rfl); (first | refine awp_textM htb hmz spMb_ok (fun _ => false) rfl rfl ?_ | refine awp_drawM hmo htb hmz spMb_ok (fun _ => false) rfl rfl (by kernel_rfl) ?_); intro m' e' l' ob h; simp only [zE0, zE1, zE2, zE3, zE4, zE5, evp, evx, ev1, evLoad, evStore, evBin, isBoolK, forall_const, z38, tb, Nat.reduceAdd, Nat.reduceSub, Nat.reduceMul, Nat.reduceEqDiff, Nat.reduceLeDiff, Nat.reduceLT, Nat.reduceBEq, Nat.reduceBNe, ↓reduceIte, reduceIte, svA, spMb, membersS] at h; obtain ⟨rfl, rfl, rfl, rfl⟩ := h; refine ⟨?_, ?_⟩)
            | ((with_reducible refine Ob.mk ?_); first | exact trivial | (intros; omega) | ((repeat' first | apply And.intro | (intro hg; have hg' := hg; try simp only [zH] at hg')) <;> first | (with_reducible exact True.intro) | assumption | omega | (simp only [zH]; omega)))
          · rw [mget_mput, if_pos rfl] at hb
            refine back ⟨t.L, mput u (mget u (e1) - 1) (c1) (e1), mclk u (c1) (e1), t.i + 1⟩ [] ?_ ⟨⟨by dsimp only; omega, hwq⟩, by dsimp only; rw [hdn]; exact AQ_left hA hwq huq hwu hud hes hop (by show 1 < lfn x l (qo to o.length t.L) b.i ((row.take t.i).map Int.toNat) u; omega) ⟨by rw [mhas_mput, if_pos rfl], by rw [mget_mput, if_pos rfl, hg1]⟩ hnd, fun k => heb k (by omega)⟩ (by dsimp only; omega)
            (refine ⟨rfl, ?_, ?_⟩ <;> simp only [zE0, zE1, zE2, zE3, zE4, zE5, evp, evx, ev1, evLoad, evStore, evBin, isBoolK, forall_const, z38, tb, Nat.reduceAdd, Nat.reduceSub, Nat.reduceMul, Nat.reduceEqDiff, Nat.reduceLeDiff, Nat.reduceLT, Nat.reduceBEq, Nat.reduceBNe, ↓reduceIte, reduceIte, svA, spMb, membersS, zI])
          · rw [mget_mput, if_pos rfl] at hb
            refine awp_cut ([_, _, _]) ([]) rfl rfl ?_
            refine awpL_text htb hmz spMb_ok (fun _ => false) rfl rfl rfl ?_; intro m' e' l' ob h; simp only [zE0, zE1, zE2, zE3, zE4, zE5, evp, evx, ev1, evLoad, evStore, evBin, isBoolK, forall_const, z38, tb, Nat.reduceAdd, Nat.reduceSub, Nat.reduceMul, Nat.reduceEqDiff, Nat.reduceLeDiff, Nat.reduceLT, Nat.reduceBEq, Nat.reduceBNe, ↓reduceIte, reduceIte, svA, spMb, membersS] at h; obtain ⟨rfl, rfl, rfl, rfl⟩ := h; refine ⟨?_, next_then ?_⟩
            · first | ((with_reducible refine Ob.mk ?_); first | exact trivial | (intros; omega) | ((repeat' first | apply And.intro | (intro hg; have hg' := hg; try simp only [zH] at hg')) <;> first | (with_reducible exact True.intro) | assumption | omega | (simp only [zH]; omega))) | skip
            refine awpL_callG ([0, 1, 2, 3, 4]) (hT t.L u w hun) rfl rfl rfl rfl rfl rfl rfl rfl rfl (by simp only [rinR, rhoC, zE0, zE1, zE2, zE3, zE4, zE5, evp, evx, ev1, evLoad, evStore, evBin, isBoolK, forall_const, z38, tb, Nat.reduceAdd, Nat.reduceSub, Nat.reduceMul, Nat.reduceEqDiff, Nat.reduceLeDiff, Nat.reduceLT, Nat.reduceBEq, Nat.reduceBNe, ↓reduceIte, reduceIte, svA, spMb, membersS]) ?_; intro gm gv gr hq m' e' l' h; simp only [GR.mk.injEq] at hq; obtain ⟨rfl, rfl, rfl⟩ := hq; simp only [rhoC, outR, renR, dels, zE0, zE1, zE2, zE3, zE4, zE5, evp, evx, ev1, evLoad, evStore, evBin, isBoolK, forall_const, z38, tb, Nat.reduceAdd, Nat.reduceSub, Nat.reduceMul, Nat.reduceEqDiff, Nat.reduceLeDiff, Nat.reduceLT, Nat.reduceBEq, Nat.reduceBNe, ↓reduceIte, reduceIte, svA, spMb, membersS] at h; obtain ⟨rfl, rfl, rfl⟩ := h; refine next_then ?_
            refine awpL_text htb hmz spMb_ok (fun _ => false) rfl rfl rfl ?_; intro m' e' l' ob h; simp only [zE0, zE1, zE2, zE3, zE4, zE5, evp, evx, ev1, evLoad, evStore, evBin, isBoolK, forall_const, z38, tb, Nat.reduceAdd, Nat.reduceSub, Nat.reduceMul, Nat.reduceEqDiff, Nat.reduceLeDiff, Nat.reduceLT, Nat.reduceBEq, Nat.reduceBNe, ↓reduceIte, reduceIte, svA, spMb, membersS] at h; obtain ⟨rfl, rfl, rfl, rfl⟩ := h; refine ⟨?_, ?_⟩
            · first | ((with_reducible refine Ob.mk ?_); first | exact trivial | (intros; omega) | ((repeat' first | apply And.intro | (intro hg; have hg' := hg; try simp only [zH] at hg')) <;> first | (with_reducible exact True.intro) | assumption | omega | (simp only [zH]; omega))) | skip
            repeat' first
              | with_reducible first | refine awp_seq ?_ | refine awp_block ?_ | refine next_then ?_ | refine next_block ?_ | refine exit_then ?_ | refine ret_then ?_ | refine ret_block ?_ | refine exit_here ?_ | refine awp_exit ?_ | refine awp_ret ?_ | refine awp_skip ?_ | refine awp_label ?_ | refine next_noGoto ?_ | refine ret_noGoto ?_ | refine exit_noGoto ?_ | refine awp_scope ?_
              | ((with_reducible refine exit_past ?_ ?_); exact rfl)
              | ((with_reducible refine isCond ?_); refine awp_condO rfl ?_ ?_ <;> intro hb <;> (try simp only [zH] at hb))
              | ((with_reducible refine isReg ?_); (first | refine awp_textM htb hmz spMb_ok (fun _ => false) rfl rfl ?_ | refine awp_drawM hmo htb hmz spMb_ok (fun _ => false) rfl rfl (by kernel_rfl) ?_); intro m' e' l' ob h; simp only [zE0, zE1, zE2, zE3, zE4, zE5, evp, evx, ev1, evLoad, evStore, evBin, isBoolK, forall_const, z38, tb, Nat.reduceAdd, Nat.reduceSub, Nat.reduceMul, Nat.reduceEqDiff, Nat.reduceLeDiff, Nat.reduceLT, Nat.reduceBEq, Nat.reduceBNe, ↓reduceIte, reduceIte, svA, spMb, membersS] at h; obtain ⟨rfl, rfl, rfl, rfl⟩ := h; refine ⟨?_, ?_⟩)
              | ((with_reducible refine Ob.mk ?_); first | exact trivial | (intros; omega) | ((repeat' first | apply And.intro | (intro hg; have hg' := hg; try simp only [zH] at hg')) <;> first | (with_reducible exact True.intro) | assumption | omega | (simp only [zH]; omega)))
            refine back ⟨t.L ++ [(u, w)], mput u (mget u (e1) - 1) (c1) (e1), mclk u (c1) (e1), t.i + 1⟩ [(27, 98)] ?_ ⟨⟨by dsimp only; omega, qo_at hwq⟩, by dsimp only; rw [hdn]; exact AQ_take hA hwq hlu huq hwu hud hes (fun _ => by show lfn x l (qo to o.length t.L) b.i ((row.take t.i).map Int.toNat) u ≤ 1; omega) hnd, fun k => heb k (by omega)⟩ (by dsimp only; omega)
            (refine ⟨rfl, ?_, ?_⟩ <;> simp only [zE0, zE1, zE2, zE3, zE4, zE5, evp, evx, ev1, evLoad, evStore, evBin, isBoolK, forall_const, z38, tb, Nat.reduceAdd, Nat.reduceSub, Nat.reduceMul, Nat.reduceEqDiff, Nat.reduceLeDiff, Nat.reduceLT, Nat.reduceBEq, Nat.reduceBNe, ↓reduceIte, reduceIte, svA, spMb, membersS, zI])
            rw [qo_drop hwq, List.map_append]
            exact ⟨rfl, atB_set hun⟩
        · rename_i hb2 hop
          obtain ⟨hlu, huo⟩ := hb2
          have huq : u ∉ qo to o.length t.L := fun h => by rw [(atB_iff hun).2 h] at huo; cases huo
          obtain ⟨h0, h1, _⟩ := hA.c0o u hlu huq hop
          have hg1 := h1 hb
          dsimp only at h0 hg1
          have hot : ∀ u' : Nat, u' ≠ u → mhas u' t.es = mhas u' t.es ∧ mget u' t.es = mget u' t.es := fun u' hu' => ⟨rfl, rfl⟩
          have hb1 := hbd
          have hbu1 := hb1 u
          have hes : ∀ u' : Nat, u' ≠ u → mhas u' (mput u (mget u (t.es) - 1) (t.c) (t.es)) = mhas u' t.es ∧ mget u' (mput u (mget u (t.es) - 1) (t.c) (t.es)) = mget u' t.es := fun u' hu' => ⟨(mhas_mput.trans (if_neg (by omega))).trans (hot u' hu').1, (mget_mput.trans (if_neg (by omega))).trans (hot u' hu').2⟩
          have heb : ∀ k : Nat, 0 ≤ mget u (t.es) - 1 → 0 ≤ mget k (mput u (mget u (t.es) - 1) (t.c) (t.es)) ∧ mget k (mput u (mget u (t.es) - 1) (t.c) (t.es)) ≤ 64 := fun k h0 => by
            rw [mget_mput]
            split
            · omega
            · exact hb1 k
          repeat' first
            | with_reducible first | refine awp_seq ?_ | refine awp_block ?_ | refine next_then ?_ | refine next_block ?_ | refine exit_then ?_ | refine ret_then ?_ | refine ret_block ?_ | refine exit_here ?_ | refine awp_exit ?_ | refine awp_ret ?_ | refine awp_skip ?_ | refine awp_label ?_ | refine next_noGoto ?_ | refine ret_noGoto ?_ | refine exit_noGoto ?_ | refine awp_scope ?_
            | ((with_reducible refine exit_past ?_ ?_); exact rfl)
            | ((with_reducible refine isCond ?_); refine awp_condO rfl ?_ ?_ <;> intro hb <;> (try simp only [zH] at hb))
            | ((with_reducible refine isRegS 22 ?_ ?_); (· exact rfl); (first | refine awp_textM htb hmz spMb_ok (fun _ => false) rfl rfl ?_ | refine awp_drawM hmo htb hmz spMb_ok (fun _ => false) rfl rfl (by kernel_rfl) ?_); intro m' e' l' ob h; simp only [zE0, zE1, zE2, zE3, zE4, zE5, evp, evx, ev1, evLoad, evStore, evBin, isBoolK, forall_const, z38, tb, Nat.reduceAdd, Nat.reduceSub, Nat.reduceMul, Nat.reduceEqDiff, Nat.reduceLeDiff, Nat.reduceLT, Nat.reduceBEq, Nat.reduceBNe, ↓reduceIte, reduceIte, svA, spMb, membersS] at h; obtain ⟨rfl, rfl, rfl, rfl⟩ := h; refine ⟨?_, ?_⟩)
            | ((with_reducible refine Ob.mk ?_); first | exact trivial | (intros; omega) | ((repeat' first | apply And.intro | (intro hg; have hg' := hg; try simp only [zH] at hg')) <;> first | (with_reducible exact True.intro) | assumption | omega | (simp only [zH]; omega)))
          · rw [mget_mput, if_pos rfl] at hb
            refine back ⟨t.L, mput u (mget u (t.es) - 1) (t.c) (t.es), mclk u (t.c) (t.es), t.i + 1⟩ [] ?_ ⟨⟨by dsimp only; omega, hwq⟩, by dsimp only; rw [hdn]; exact AQ_left hA hwq huq hwu hud hes hop (by show 1 < lfn x l (qo to o.length t.L) b.i ((row.take t.i).map Int.toNat) u; omega) ⟨by rw [mhas_mput, if_pos rfl], by rw [mget_mput, if_pos rfl, hg1]⟩ hnd, fun k => heb k (by omega)⟩ (by dsimp only; omega)
            (refine ⟨rfl, ?_, ?_⟩ <;> simp only [zE0, zE1, zE2, zE3, zE4, zE5, evp, evx, ev1, evLoad, evStore, evBin, isBoolK, forall_const, z38, tb, Nat.reduceAdd, Nat.reduceSub, Nat.reduceMul, Nat.reduceEqDiff, Nat.reduceLeDiff, Nat.reduceLT, Nat.reduceBEq, Nat.reduceBNe, ↓reduceIte, reduceIte, svA, spMb, membersS, zI])
          · rw [mget_mput, if_pos rfl] at hb
            refine awp_cut ([_, _, _]) ([]) rfl rfl ?_
            refine awpL_text htb hmz spMb_ok (fun _ => false) rfl rfl rfl ?_; intro m' e' l' ob h; simp only [zE0, zE1, zE2, zE3, zE4, zE5, evp, evx, ev1, evLoad, evStore, evBin, isBoolK, forall_const, z38, tb, Nat.reduceAdd, Nat.reduceSub, Nat.reduceMul, Nat.reduceEqDiff, Nat.reduceLeDiff, Nat.reduceLT, Nat.reduceBEq, Nat.reduceBNe, ↓reduceIte, reduceIte, svA, spMb, membersS] at h; obtain ⟨rfl, rfl, rfl, rfl⟩ := h; refine ⟨?_, next_then ?_⟩
            · first | ((with_reducible refine Ob.mk ?_); first | exact trivial | (intros; omega) | ((repeat' first | apply And.intro | (intro hg; have hg' := hg; try simp only [zH] at hg')) <;> first | (with_reducible exact True.intro) | assumption | omega | (simp only [zH]; omega))) | skip
            refine awpL_callG ([0, 1, 2, 3, 4]) (hT t.L u w hun) rfl rfl rfl rfl rfl rfl rfl rfl rfl (by simp only [rinR, rhoC, zE0, zE1, zE2, zE3, zE4, zE5, evp, evx, ev1, evLoad, evStore, evBin, isBoolK, forall_const, z38, tb, Nat.reduceAdd, Nat.reduceSub, Nat.reduceMul, Nat.reduceEqDiff, Nat.reduceLeDiff, Nat.reduceLT, Nat.reduceBEq, Nat.reduceBNe, ↓reduceIte, reduceIte, svA, spMb, membersS]) ?_; intro gm gv gr hq m' e' l' h; simp only [GR.mk.injEq] at hq; obtain ⟨rfl, rfl, rfl⟩ := hq; simp only [rhoC, outR, renR, dels, zE0, zE1, zE2, zE3, zE4, zE5, evp, evx, ev1, evLoad, evStore, evBin, isBoolK, forall_const, z38, tb, Nat.reduceAdd, Nat.reduceSub, Nat.reduceMul, Nat.reduceEqDiff, Nat.reduceLeDiff, Nat.reduceLT, Nat.reduceBEq, Nat.reduceBNe, ↓reduceIte, reduceIte, svA, spMb, membersS] at h; obtain ⟨rfl, rfl, rfl⟩ := h; refine next_then ?_
            refine awpL_text htb hmz spMb_ok (fun _ => false) rfl rfl rfl ?_; intro m' e' l' ob h; simp only [zE0, zE1, zE2, zE3, zE4, zE5, evp, evx, ev1, evLoad, evStore, evBin, isBoolK, forall_const, z38, tb, Nat.reduceAdd, Nat.reduceSub, Nat.reduceMul, Nat.reduceEqDiff, Nat.reduceLeDiff, Nat.reduceLT, Nat.reduceBEq, Nat.reduceBNe, ↓reduceIte, reduceIte, svA, spMb, membersS] at h; obtain ⟨rfl, rfl, rfl, rfl⟩ := h; refine ⟨?_, ?_⟩
            · first | ((with_reducible refine Ob.mk ?_); first | exact trivial | (intros; omega) | ((repeat' first | apply And.intro | (intro hg; have hg' := hg; try simp only [zH] at hg')) <;> first | (with_reducible exact True.intro) | assumption | omega | (simp only [zH]; omega))) | skip
            repeat' first
              | with_reducible first | refine awp_seq ?_ | refine awp_block ?_ | refine next_then ?_ | refine next_block ?_ | refine exit_then ?_ | refine ret_then ?_ | refine ret_block ?_ | refine exit_here ?_ | refine awp_exit ?_ | refine awp_ret ?_ | refine awp_skip ?_ | refine awp_label ?_ | refine next_noGoto ?_ | refine ret_noGoto ?_ | refine exit_noGoto ?_ | refine awp_scope ?_
              | ((with_reducible refine exit_past ?_ ?_); exact rfl)
              | ((with_reducible refine isCond ?_); refine awp_condO rfl ?_ ?_ <;> intro hb <;> (try simp only [zH] at hb))
              | ((with_reducible refine isReg ?_); (first | refine awp_textM htb hmz spMb_ok (fun _ => false) rfl rfl ?_ | refine awp_drawM hmo htb hmz spMb_ok (fun _ => false) rfl rfl (by kernel_rfl) ?_); intro m' e' l' ob h; simp only [zE0, zE1, zE2, zE3, zE4, zE5, evp, evx, ev1, evLoad, evStore, evBin, isBoolK, forall_const, z38, tb, Nat.reduceAdd, Nat.reduceSub, Nat.reduceMul, Nat.reduceEqDiff, Nat.reduceLeDiff, Nat.reduceLT, Nat.reduceBEq, Nat.reduceBNe, ↓reduceIte, reduceIte, svA, spMb, membersS] at h; obtain ⟨rfl, rfl, rfl, rfl⟩ := h; refine ⟨?_, ?_⟩)
              | ((with_reducible refine Ob.mk ?_); first | exact trivial | (intros; omega) | ((repeat' first | apply And.intro | (intro hg; have hg' := hg; try simp only [zH] at hg')) <;> first | (with_reducible exact True.intro) | assumption | omega | (simp only [zH]; omega)))
            refine back ⟨t.L ++ [(u, w)], mput u (mget u (t.es) - 1) (t.c) (t.es), mclk u (t.c) (t.es), t.i + 1⟩ [(27, 92)] ?_ ⟨⟨by dsimp only; omega, qo_at hwq⟩, by dsimp only; rw [hdn]; exact AQ_take hA hwq hlu huq hwu hud hes (fun _ => by show lfn x l (qo to o.length t.L) b.i ((row.take t.i).map Int.toNat) u ≤ 1; omega) hnd, fun k => heb k (by omega)⟩ (by dsimp only; omega)
            (refine ⟨rfl, ?_, ?_⟩ <;> simp only [zE0, zE1, zE2, zE3, zE4, zE5, evp, evx, ev1, evLoad, evStore, evBin, isBoolK, forall_const, z38, tb, Nat.reduceAdd, Nat.reduceSub, Nat.reduceMul, Nat.reduceEqDiff, Nat.reduceLeDiff, Nat.reduceLT, Nat.reduceBEq, Nat.reduceBNe, ↓reduceIte, reduceIte, svA, spMb, membersS, zI])
            rw [qo_drop hwq, List.map_append]
            exact ⟨rfl, atB_set hun⟩
        · rename_i hb2
          have huq : u ∉ qo to o.length t.L := fun h => by rw [(atB_iff hun).2 h] at hb2; cases hb2.2
          refine awp_cut ([_, _, _]) ([]) rfl rfl ?_
          refine awpL_text htb hmz spMb_ok (fun _ => false) rfl rfl rfl ?_; intro m' e' l' ob h; simp only [zE0, zE1, zE2, zE3, zE4, zE5, evp, evx, ev1, evLoad, evStore, evBin, isBoolK, forall_const, z38, tb, Nat.reduceAdd, Nat.reduceSub, Nat.reduceMul, Nat.reduceEqDiff, Nat.reduceLeDiff, Nat.reduceLT, Nat.reduceBEq, Nat.reduceBNe, ↓reduceIte, reduceIte, svA, spMb, membersS] at h; obtain ⟨rfl, rfl, rfl, rfl⟩ := h; refine ⟨?_, next_then ?_⟩
          · first | ((with_reducible refine Ob.mk ?_); first | exact trivial | (intros; omega) | ((repeat' first | apply And.intro | (intro hg; have hg' := hg; try simp only [zH] at hg')) <;> first | (with_reducible exact True.intro) | assumption | omega | (simp only [zH]; omega))) | skip
          refine awpL_callG ([0, 1, 2, 3, 4]) (hT t.L u w hun) rfl rfl rfl rfl rfl rfl rfl rfl rfl (by simp only [rinR, rhoC, zE0, zE1, zE2, zE3, zE4, zE5, evp, evx, ev1, evLoad, evStore, evBin, isBoolK, forall_const, z38, tb, Nat.reduceAdd, Nat.reduceSub, Nat.reduceMul, Nat.reduceEqDiff, Nat.reduceLeDiff, Nat.reduceLT, Nat.reduceBEq, Nat.reduceBNe, ↓reduceIte, reduceIte, svA, spMb, membersS]) ?_; intro gm gv gr hq m' e' l' h; simp only [GR.mk.injEq] at hq; obtain ⟨rfl, rfl, rfl⟩ := hq; simp only [rhoC, outR, renR, dels, zE0, zE1, zE2, zE3, zE4, zE5, evp, evx, ev1, evLoad, evStore, evBin, isBoolK, forall_const, z38, tb, Nat.reduceAdd, Nat.reduceSub, Nat.reduceMul, Nat.reduceEqDiff, Nat.reduceLeDiff, Nat.reduceLT, Nat.reduceBEq, Nat.reduceBNe, ↓reduceIte, reduceIte, svA, spMb, membersS] at h; obtain ⟨rfl, rfl, rfl⟩ := h; refine next_then ?_
          refine awpL_text htb hmz spMb_ok (fun _ => false) rfl rfl rfl ?_; intro m' e' l' ob h; simp only [zE0, zE1, zE2, zE3, zE4, zE5, evp, evx, ev1, evLoad, evStore, evBin, isBoolK, forall_const, z38, tb, Nat.reduceAdd, Nat.reduceSub, Nat.reduceMul, Nat.reduceEqDiff, Nat.reduceLeDiff, Nat.reduceLT, Nat.reduceBEq, Nat.reduceBNe, ↓reduceIte, reduceIte, svA, spMb, membersS] at h; obtain ⟨rfl, rfl, rfl, rfl⟩ := h; refine ⟨?_, ?_⟩
          · first | ((with_reducible refine Ob.mk ?_); first | exact trivial | (intros; omega) | ((repeat' first | apply And.intro | (intro hg; have hg' := hg; try simp only [zH] at hg')) <;> first | (with_reducible exact True.intro) | assumption | omega | (simp only [zH]; omega))) | skip
          repeat' first
            | with_reducible first | refine awp_seq ?_ | refine awp_block ?_ | refine next_then ?_ | refine next_block ?_ | refine exit_then ?_ | refine ret_then ?_ | refine ret_block ?_ | refine exit_here ?_ | refine awp_exit ?_ | refine awp_ret ?_ | refine awp_skip ?_ | refine awp_label ?_ | refine next_noGoto ?_ | refine ret_noGoto ?_ | refine exit_noGoto ?_ | refine awp_scope ?_
            | ((with_reducible refine exit_past ?_ ?_); exact rfl)
            | ((with_reducible refine isCond ?_); refine awp_condO rfl ?_ ?_ <;> intro hb <;> (try simp only [zH] at hb))
            | ((with_reducible refine isReg ?_); (first | refine awp_textM htb hmz spMb_ok (fun _ => false) rfl rfl ?_ | refine awp_drawM hmo htb hmz spMb_ok (fun _ => false) rfl rfl (by kernel_rfl) ?_); intro m' e' l' ob h; simp only [zE0, zE1, zE2, zE3, zE4, zE5, evp, evx, ev1, evLoad, evStore, evBin, isBoolK, forall_const, z38, tb, Nat.reduceAdd, Nat.reduceSub, Nat.reduceMul, Nat.reduceEqDiff, Nat.reduceLeDiff, Nat.reduceLT, Nat.reduceBEq, Nat.reduceBNe, ↓reduceIte, reduceIte, svA, spMb, membersS] at h; obtain ⟨rfl, rfl, rfl, rfl⟩ := h; refine ⟨?_, ?_⟩)
            | ((with_reducible refine Ob.mk ?_); first | exact trivial | (intros; omega) | ((repeat' first | apply And.intro | (intro hg; have hg' := hg; try simp only [zH] at hg')) <;> first | (with_reducible exact True.intro) | assumption | omega | (simp only [zH]; omega)))
          refine back ⟨t.L ++ [(u, w)], t.es, t.c, t.i + 1⟩ [(27, 73)] ?_ ⟨⟨by dsimp only; omega, qo_at hwq⟩, by dsimp only; rw [hdn]; exact AQ_take hA hwq hb2.1 huq hwu hud (fun u' _ => ⟨rfl, rfl⟩) (fun h => absurd hb h) hnd, hbd⟩ (by dsimp only; omega)
          (refine ⟨rfl, ?_, ?_⟩ <;> simp only [zE0, zE1, zE2, zE3, zE4, zE5, evp, evx, ev1, evLoad, evStore, evBin, isBoolK, forall_const, z38, tb, Nat.reduceAdd, Nat.reduceSub, Nat.reduceMul, Nat.reduceEqDiff, Nat.reduceLeDiff, Nat.reduceLT, Nat.reduceBEq, Nat.reduceBNe, ↓reduceIte, reduceIte, svA, spMb, membersS, zI])
          rw [qo_drop hwq, List.map_append]
          exact ⟨rfl, atB_set hun⟩
        · exfalso; omega
      · have hje : t.i = row.length := by omega
        repeat' first
          | with_reducible first | refine awp_seq ?_ | refine awp_block ?_ | refine next_then ?_ | refine next_block ?_ | refine exit_then ?_ | refine ret_then ?_ | refine ret_block ?_ | refine exit_here ?_ | refine awp_exit ?_ | refine awp_ret ?_ | refine awp_skip ?_ | refine awp_label ?_ | refine next_noGoto ?_ | refine ret_noGoto ?_ | refine exit_noGoto ?_ | refine awp_scope ?_
          | ((with_reducible refine exit_past ?_ ?_); exact rfl)
          | ((with_reducible refine isCond ?_); refine awp_condO rfl ?_ ?_ <;> intro hb <;> (try simp only [zH] at hb))
          | ((with_reducible refine isRegS 13 ?_ ?_); (· exact rfl); (first | refine awp_textM htb hmz spMb_ok (fun _ => false) rfl rfl ?_ | refine awp_drawM hmo htb hmz spMb_ok (fun _ => false) rfl rfl (by kernel_rfl) ?_); intro m' e' l' ob h; simp only [zE0, zE1, zE2, zE3, zE4, zE5, evp, evx, ev1, evLoad, evStore, evBin, isBoolK, forall_const, z38, tb, Nat.reduceAdd, Nat.reduceSub, Nat.reduceMul, Nat.reduceEqDiff, Nat.reduceLeDiff, Nat.reduceLT, Nat.reduceBEq, Nat.reduceBNe, ↓reduceIte, reduceIte, svA, spMb, membersS] at h; obtain ⟨rfl, rfl, rfl, rfl⟩ := h; refine ⟨?_, ?_⟩)
          | ((with_reducible refine Ob.mk ?_); first | exact trivial | (intros; omega) | ((repeat' first | apply And.intro | (intro hg; have hg' := hg; try simp only [zH] at hg')) <;> first | (with_reducible exact True.intro) | assumption | omega | (simp only [zH]; omega)))
        · exfalso; omega
        refine back ⟨t.L, t.es, t.c, b.i + 1⟩ [(15, 27)] ?_ ⟨AQ_end hA hwq fun u hwu => ?_, hbd⟩ (by dsimp only; omega)
        · (refine ⟨rfl, ?_, ?_⟩ <;> simp only [zE0, zE1, zE2, zE3, zE4, zE5, evp, evx, ev1, evLoad, evStore, evBin, isBoolK, forall_const, z38, tb, Nat.reduceAdd, Nat.reduceSub, Nat.reduceMul, Nat.reduceEqDiff, Nat.reduceLeDiff, Nat.reduceLT, Nat.reduceBEq, Nat.reduceBNe, ↓reduceIte, reduceIte, svA, spMb, membersS, zI])
        · rw [hje, List.take_length]
          exact hba u (by have : u < x.length := sc_in hwu; omega) hwu
  · intro t h; exact h.elim
end Go.Proofs.Ytlckljphakkomaa.Cal
