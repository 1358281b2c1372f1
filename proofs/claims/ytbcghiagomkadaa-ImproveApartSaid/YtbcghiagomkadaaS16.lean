/- Own texts of the proof, merged, in order. -/
import Derived.Test.YtbcghiagomkadaaS15
set_option linter.unusedVariables false
set_option linter.unusedSimpArgs false
namespace Go.Proofs.Ytbcghiagomkadaa.Cal
open Go Pl
/-- The best of a row, from the value of the choice on. -/
def btIn (pl : Int) (l : Nat → Vl) (row : List Int) (s : Vl × Int × Bool) : Vl × Int × Bool := row.foldl (fun s w => if 0 < cmpV pl (l w.toNat) s.1 then (l w.toNat, w, true) else s) s
theorem btIn_next {pl : Int} {l : Nat → Vl} {row : List Int} {s : Vl × Int × Bool} {i : Nat} (h : i < row.length) : btIn pl l (row.take (i + 1)) s = if 0 < cmpV pl (l (row.getD i 0).toNat) (btIn pl l (row.take i) s).1 then (l (row.getD i 0).toNat, row.getD i 0, true) else btIn pl l (row.take i) s := by
  unfold btIn
  rw [take1 (d := 0) h, List.foldl_append]; rfl
def nowV (h : Im) (ch : List Int) (l : Nat → Vl) (v : Nat) : Vl := if 0 ≤ ch.getD v 0 then l (ch.getD v 0).toNat else h.st
def bStep (h : Im) (l : Nat → Vl) (s : List Int × Bool) (v : Nat) : List Int × Bool :=
  if h.o.getD v 0 ≠ h.pl then s else (s.1.set v (btIn h.pl l (h.x.getD v []) (nowV h s.1 l v, s.1.getD v 0, s.2)).2.1, (btIn h.pl l (h.x.getD v []) (nowV h s.1 l v, s.1.getD v 0, s.2)).2.2)
/-- Better choices at the first i positions. -/
def bPass (h : Im) (l : Nat → Vl) (ch : List Int) (i : Nat) : List Int × Bool := (List.range i).foldl (bStep h l) (ch, false)
theorem bPass_next {h : Im} {l : Nat → Vl} {ch : List Int} {i : Nat} : bPass h l ch (i + 1) = bStep h l (bPass h l ch i) i := by
  unfold bPass
  rw [List.range_succ, List.foldl_append]; rfl
theorem bStep_len {h : Im} {l : Nat → Vl} {s : List Int × Bool} {v : Nat} : (bStep h l s v).1.length = s.1.length := by
  unfold bStep
  split
  · rfl
  · exact List.length_set
theorem bPass_len {h : Im} {l : Nat → Vl} {ch : List Int} : ∀ {i : Nat}, (bPass h l ch i).1.length = ch.length
  | 0 => rfl
  | i + 1 => by rw [bPass_next, bStep_len, bPass_len]
/-- The choice is one of the row, or as it was. -/
theorem btIn_ch {pl : Int} {l : Nat → Vl} {P : Vl × Int × Bool → Prop} : ∀ {row : List Int} {s : Vl × Int × Bool}, P s → (∀ s w, w ∈ row → P s → 0 < cmpV pl (l w.toNat) s.1 → P (l w.toNat, w, true)) → P (btIn pl l row s) := by
  intro row
  induction row with
  | nil => intro s h _; exact h
  | cons a row ih =>
    intro s h hP
    unfold btIn
    rw [List.foldl_cons]
    refine ih ?_ fun s w hw => hP s w (List.mem_cons_of_mem _ hw)
    split
    · rename_i h2
      exact hP s a List.mem_cons_self h h2
    · exact h
theorem bPass_lt {h : Im} {l : Nat → Vl} {ch : List Int} {n : Int} (hr : ∀ v w, w ∈ h.x.getD v [] → v < ch.length → w < n) : ∀ {i : Nat}, i ≤ ch.length → (∀ v, v < ch.length → ch.getD v 0 < n) → ∀ v, v < ch.length → (bPass h l ch i).1.getD v 0 < n
  | 0, _, hc => hc
  | i + 1, hi, hc => fun v hv => by
    have ih := bPass_lt (l := l) hr (i := i) (by omega) hc
    rw [bPass_next]
    unfold bStep
    split
    · exact ih v hv
    · dsimp only
      have hl := @bPass_len h l ch i
      have e : ∀ y, ((bPass h l ch i).1.set i y).getD v 0 = if v = i then y else (bPass h l ch i).1.getD v 0 := fun y => by
        simp only [List.getD_eq_getElem?_getD, List.getElem?_set]
        by_cases e : i = v
        · subst e; simp [hl, hv]
        · rw [if_neg e, if_neg (fun h => e h.symm)]
      rw [e]
      split
      · exact btIn_ch (P := fun s => s.2.1 < n) (ih i (by omega)) fun s w hw _ _ => hr i w hw (by omega)
      · exact ih v hv
theorem btIn_ok {pl : Int} {l : Nat → Vl} {K : Nat} {D : Int} {row : List Int} {s : Vl × Int × Bool} (h : VOK K D s.1) (hl : ∀ w, w ∈ row → VOK K D (l w.toNat)) : VOK K D (btIn pl l row s).1 :=
  btIn_ch (P := fun s => VOK K D s.1) h fun s w hw _ _ => hl w hw
set_option maxRecDepth 4000 in
set_option maxHeartbeats 4000000 in
theorem better_fg {o p : List Int} {x : List (List Int)} {pl : Int} {st : Vl} {ls : List Bool} {ch : List Int} {l : Nat → Vl} {K : Nat} {D : Int} (H : ImOK ⟨o, p, x, pl, st, ls⟩ K) (hD : 0 ≤ D) (hcl : ch.length = o.length) (hc : ∀ v, v < o.length → ch.getD v 0 < o.length) (hvo : ∀ u, u < o.length → VOK K D (l u)) :
    FG Try.prog 50 [.agg (.cons (.roI o) (.cons (.roI p) (.cons (.roII x) (.cons (.int .i64 pl) (.cons (.bool st.e) (.cons (.bool st.n) (.cons (.roI st.m) (.cons (.roB ls) (.cons (.own 1) .nil))))))))), .own 0] [(0, some (.avs 3 o.length fun j => vlA (l j))), (1, some (.ints ch))] 2
      fun g => g = ⟨2, .bool (bPass ⟨o, p, x, pl, st, ls⟩ l ch o.length).2, [(0, some (.avs 3 o.length fun j => vlA (l j))), (1, some (.ints (bPass ⟨o, p, x, pl, st, ls⟩ l ch o.length).1))]⟩ := by
  have hn : o.length ≤ 20000 := H.n
  have hxl : x.length = o.length := H.xl
  have hlt := fun i hi => bPass_lt (h := ⟨o, p, x, pl, st, ls⟩) (l := l) (ch := ch) (n := o.length) (fun v w hw hv => by
    obtain ⟨j, hj, rfl⟩ := mem_ix hw
    exact ((H.row v (by show v < o.length; omega)).2 j hj).2) (i := i) hi (fun v hv => hc v (by omega))
  have hbl := fun i => @bPass_len ⟨o, p, x, pl, st, ls⟩ l ch i
  have hbn := fun i => @bPass_next ⟨o, p, x, pl, st, ls⟩ l ch i
  refine fg_of htb (fn := Try.f50) (by kernel_rfl) (by kernel_rfl) rfl (Nat.le_of_ble_eq_true rfl) fun hl => ?_
  simp only [lenP, mkL, lim] at hl
  repeat' first
    | with_reducible first | refine awp_seq ?_ | refine awp_block ?_ | refine next_then ?_ | refine next_block ?_ | refine exit_then ?_ | refine ret_then ?_ | refine ret_block ?_ | refine exit_here ?_ | refine awp_exit ?_ | refine awp_ret ?_ | refine awp_skip ?_ | refine awp_label ?_ | refine next_noGoto ?_ | refine ret_noGoto ?_ | refine exit_noGoto ?_ | refine awp_scope ?_
    | ((with_reducible refine exit_past ?_ ?_); exact rfl)
    | ((with_reducible refine isCond ?_); refine awp_condO rfl ?_ ?_ <;> intro hb <;> (try simp only [zH] at hb))
    | ((with_reducible refine isReg ?_); (first | refine awp_textM htb hmz spVa_ok (fun _ => false) rfl rfl ?_ | refine awp_drawM hmo htb hmz spVa_ok (fun _ => false) rfl rfl (by kernel_rfl) ?_); intro m' e' l' ob h; simp only [zE0, zE1, zE2, zE3, zE4, zE5, evp, evx, ev1, evLoad, evStore, evBin, isBoolK, forall_const, z38, tb, Nat.reduceAdd, Nat.reduceSub, Nat.reduceMul, Nat.reduceEqDiff, Nat.reduceLeDiff, Nat.reduceLT, Nat.reduceBEq, Nat.reduceBNe, ↓reduceIte, reduceIte, spVa, compareS, vlA] at h; obtain ⟨rfl, rfl, rfl, rfl⟩ := h; refine ⟨?_, ?_⟩)
    | ((with_reducible refine Ob.mk ?_); first | exact trivial | (intros; omega) | ((repeat' first | apply And.intro | (intro hg; have hg' := hg; try simp only [zH] at hg')) <;> first | (with_reducible exact True.intro) | assumption | omega | (simp only [zH]; omega)))
  refine awp_loopC (τ := Nat) (fun i => i ≤ o.length) (fun i => ⟨12, [(13, .int .i64 i), (12, .int .i64 o.length), (5, .bool (bPass ⟨o, p, x, pl, st, ls⟩ l ch i).2), (1, .own 0), (2, .own 2)], [(0, some (.avs 3 o.length fun j => vlA (l j))), (1, some (.ints (bPass ⟨o, p, x, pl, st, ls⟩ l ch i).1)), (2, some (.box (.agg (.cons (.roI o) (.cons (.roI p) (.cons (.roII x) (.cons (.int .i64 pl) (.cons (.bool st.e) (.cons (.bool st.n) (.cons (.roI st.m) (.cons (.roB ls) (.cons (.own 1) .nil))))))))))))], []⟩) (fun i => o.length - i) 0 [] ?_ (Nat.zero_le _) ?_
  · (refine ⟨rfl, ?_, ?_⟩ <;> simp only [zE0, zE1, zE2, zE3, zE4, zE5, evp, evx, ev1, evLoad, evStore, evBin, isBoolK, forall_const, z38, tb, Nat.reduceAdd, Nat.reduceSub, Nat.reduceMul, Nat.reduceEqDiff, Nat.reduceLeDiff, Nat.reduceLT, Nat.reduceBEq, Nat.reduceBNe, ↓reduceIte, reduceIte, spVa, compareS, vlA, zI])
    · exact ⟨by omega, rfl⟩
    · rfl
  intro i hi
  have hlt1 := hlt i (by omega)
  have hbl1 := hbl i
  have hbn1 := hbn i
  clear hlt hbl hbn
  generalize hsd : bPass ⟨o, p, x, pl, st, ls⟩ l ch i = s at *
  repeat' first
    | with_reducible first | refine awp_seq ?_ | refine awp_block ?_ | refine next_then ?_ | refine next_block ?_ | refine exit_then ?_ | refine ret_then ?_ | refine ret_block ?_ | refine exit_here ?_ | refine awp_exit ?_ | refine awp_ret ?_ | refine awp_skip ?_ | refine awp_label ?_ | refine next_noGoto ?_ | refine ret_noGoto ?_ | refine exit_noGoto ?_ | refine awp_scope ?_
    | ((with_reducible refine exit_past ?_ ?_); exact rfl)
    | ((with_reducible refine isCond ?_); refine awp_condO rfl ?_ ?_ <;> intro hb <;> (try simp only [zH] at hb))
    | ((with_reducible refine isRegS 6 ?_ ?_); (· exact rfl); (with_reducible refine isRegS 7 ?_ ?_); (· exact rfl); (with_reducible refine isRegS 16 ?_ ?_); (· exact rfl); (first | refine awp_textM htb hmz spVa_ok (fun _ => false) rfl rfl ?_ | refine awp_drawM hmo htb hmz spVa_ok (fun _ => false) rfl rfl (by kernel_rfl) ?_); intro m' e' l' ob h; simp only [zE0, zE1, zE2, zE3, zE4, zE5, evp, evx, ev1, evLoad, evStore, evBin, isBoolK, forall_const, z38, tb, Nat.reduceAdd, Nat.reduceSub, Nat.reduceMul, Nat.reduceEqDiff, Nat.reduceLeDiff, Nat.reduceLT, Nat.reduceBEq, Nat.reduceBNe, ↓reduceIte, reduceIte, spVa, compareS, vlA] at h; obtain ⟨rfl, rfl, rfl, rfl⟩ := h; refine ⟨?_, ?_⟩)
    | ((with_reducible refine Ob.mk ?_); first | exact trivial | (intros; omega) | ((repeat' first | apply And.intro | (intro hg; have hg' := hg; try simp only [zH] at hg')) <;> first | (with_reducible exact True.intro) | assumption | omega | (simp only [zH]; omega)))
  · have hst : bStep ⟨o, p, x, pl, st, ls⟩ l s i = s := if_pos hb
    rw [hst] at hbn1
    refine back (i + 1) [] ?_ (by omega) (by omega)
    (refine ⟨rfl, ?_, ?_⟩ <;> simp only [zE0, zE1, zE2, zE3, zE4, zE5, evp, evx, ev1, evLoad, evStore, evBin, isBoolK, forall_const, z38, tb, Nat.reduceAdd, Nat.reduceSub, Nat.reduceMul, Nat.reduceEqDiff, Nat.reduceLeDiff, Nat.reduceLT, Nat.reduceBEq, Nat.reduceBNe, ↓reduceIte, reduceIte, spVa, compareS, vlA, zI])
    all_goals rw [hbn1]
  · have hil : i < o.length := by omega
    have ho : o.getD i 0 = pl := hb
    have hst : bStep ⟨o, p, x, pl, st, ls⟩ l s i = (s.1.set i (btIn pl l (x.getD i []) (nowV ⟨o, p, x, pl, st, ls⟩ s.1 l i, s.1.getD i 0, s.2)).2.1, (btIn pl l (x.getD i []) (nowV ⟨o, p, x, pl, st, ls⟩ s.1 l i, s.1.getD i 0, s.2)).2.2) := if_neg (fun h => h ho)
    rw [hst] at hbn1
    clear hst hb
    have hci := hlt1 i (by omega)
    have hnw : 0 ≤ s.1.getD i 0 → nowV ⟨o, p, x, pl, st, ls⟩ s.1 l i = l (s.1.getD i 0).toNat := fun h => if_pos h
    have hnw2 : s.1.getD i 0 < 0 → nowV ⟨o, p, x, pl, st, ls⟩ s.1 l i = st := fun h => if_neg (by show ¬ 0 ≤ s.1.getD i 0; omega)
    have hwok : VOK K D (nowV ⟨o, p, x, pl, st, ls⟩ s.1 l i) := by
      by_cases h : 0 ≤ s.1.getD i 0
      · rw [hnw h]; exact hvo _ (by omega)
      · rw [hnw2 (by omega)]; exact vok_mono H.st hD
    generalize nowV ⟨o, p, x, pl, st, ls⟩ s.1 l i = now at *
    have hrow : (x.getD i []).length ≤ 64 ∧ ∀ j, j < (x.getD i []).length → 0 ≤ (x.getD i []).getD j 0 ∧ (x.getD i []).getD j 0 < (o.length : Int) := H.row i hil
    have hsl : s.1.length = ch.length := hbl1
    have hse : s.1.set i (s.1.getD i 0) = s.1 := by
      refine ext0 List.length_set fun j hj => ?_
      simp only [List.getD_eq_getElem?_getD, List.getElem?_set]
      by_cases e : i = j
      · subst e
        rw [List.length_set] at hj
        simp [hj]
      · rw [if_neg e]
    repeat' first
      | with_reducible first | refine awp_seq ?_ | refine awp_block ?_ | refine next_then ?_ | refine next_block ?_ | refine exit_then ?_ | refine ret_then ?_ | refine ret_block ?_ | refine exit_here ?_ | refine awp_exit ?_ | refine awp_ret ?_ | refine awp_skip ?_ | refine awp_label ?_ | refine next_noGoto ?_ | refine ret_noGoto ?_ | refine exit_noGoto ?_ | refine awp_scope ?_
      | ((with_reducible refine exit_past ?_ ?_); exact rfl)
      | ((with_reducible refine isCond ?_); refine awp_condO rfl ?_ ?_ <;> intro hb <;> (try simp only [zH] at hb))
      | ((with_reducible refine isRegS 8 ?_ ?_); (· exact rfl); (with_reducible refine isRegS 9 ?_ ?_); (· exact rfl); (with_reducible refine isRegS 16 ?_ ?_); (· exact rfl); (first | refine awp_textM htb hmz spVa_ok (fun _ => false) rfl rfl ?_ | refine awp_drawM hmo htb hmz spVa_ok (fun _ => false) rfl rfl (by kernel_rfl) ?_); intro m' e' l' ob h; simp only [zE0, zE1, zE2, zE3, zE4, zE5, evp, evx, ev1, evLoad, evStore, evBin, isBoolK, forall_const, z38, tb, Nat.reduceAdd, Nat.reduceSub, Nat.reduceMul, Nat.reduceEqDiff, Nat.reduceLeDiff, Nat.reduceLT, Nat.reduceBEq, Nat.reduceBNe, ↓reduceIte, reduceIte, spVa, compareS, vlA] at h; obtain ⟨rfl, rfl, rfl, rfl⟩ := h; refine ⟨?_, ?_⟩)
      | ((with_reducible refine Ob.mk ?_); first | exact trivial | (intros; omega) | ((repeat' first | apply And.intro | (intro hg; have hg' := hg; try simp only [zH] at hg')) <;> first | (with_reducible exact True.intro) | assumption | omega | (simp only [zH]; omega)))
    · have hnw := hnw hb
      repeat' first
        | with_reducible first | refine awp_seq ?_ | refine awp_block ?_ | refine next_then ?_ | refine next_block ?_ | refine exit_then ?_ | refine ret_then ?_ | refine ret_block ?_ | refine exit_here ?_ | refine awp_exit ?_ | refine awp_ret ?_ | refine awp_skip ?_ | refine awp_label ?_ | refine next_noGoto ?_ | refine ret_noGoto ?_ | refine exit_noGoto ?_ | refine awp_scope ?_
        | ((with_reducible refine exit_past ?_ ?_); exact rfl)
        | ((with_reducible refine isCond ?_); refine awp_condO rfl ?_ ?_ <;> intro hb <;> (try simp only [zH] at hb))
        | ((with_reducible refine isRegS 9 ?_ ?_); (· exact rfl); (first | refine awp_textM htb hmz spVa_ok (fun _ => false) rfl rfl ?_ | refine awp_drawM hmo htb hmz spVa_ok (fun _ => false) rfl rfl (by kernel_rfl) ?_); intro m' e' l' ob h; simp only [zE0, zE1, zE2, zE3, zE4, zE5, evp, evx, ev1, evLoad, evStore, evBin, isBoolK, forall_const, z38, tb, Nat.reduceAdd, Nat.reduceSub, Nat.reduceMul, Nat.reduceEqDiff, Nat.reduceLeDiff, Nat.reduceLT, Nat.reduceBEq, Nat.reduceBNe, ↓reduceIte, reduceIte, spVa, compareS, vlA] at h; obtain ⟨rfl, rfl, rfl, rfl⟩ := h; refine ⟨?_, ?_⟩)
        | ((with_reducible refine Ob.mk ?_); first | exact trivial | (intros; omega) | ((repeat' first | apply And.intro | (intro hg; have hg' := hg; try simp only [zH] at hg')) <;> first | assumption | omega | (simp only [zH]; omega)))
      refine awp_leC ⟨50, [(7, .own 26), (6, .int .i64 i), (13, .int .i64 i), (12, .int .i64 o.length), (5, .bool s.2), (1, .own 0), (2, .own 2)], [(0, some (.avs 3 o.length fun j => vlA (l j))), (1, some (.ints s.1)), (2, some (.box (.agg (.cons (.roI o) (.cons (.roI p) (.cons (.roII x) (.cons (.int .i64 pl) (.cons (.bool st.e) (.cons (.bool st.n) (.cons (.roI st.m) (.cons (.roB ls) (.cons (.own 1) .nil)))))))))))), (26, some (.box (vlA now)))], []⟩ [] ?_ ?_
      · (refine ⟨rfl, ?_, ?_⟩ <;> simp only [zE0, zE1, zE2, zE3, zE4, zE5, evp, evx, ev1, evLoad, evStore, evBin, isBoolK, forall_const, z38, tb, Nat.reduceAdd, Nat.reduceSub, Nat.reduceMul, Nat.reduceEqDiff, Nat.reduceLeDiff, Nat.reduceLT, Nat.reduceBEq, Nat.reduceBNe, ↓reduceIte, reduceIte, spVa, compareS, vlA, zI])
        rw [hnw]
        exact ⟨rfl, rfl, rfl⟩
      clear hlt1
      repeat' first
        | with_reducible first | refine awp_seq ?_ | refine awp_block ?_ | refine next_then ?_ | refine next_block ?_ | refine exit_then ?_ | refine ret_then ?_ | refine ret_block ?_ | refine exit_here ?_ | refine awp_exit ?_ | refine awp_ret ?_ | refine awp_skip ?_ | refine awp_label ?_ | refine next_noGoto ?_ | refine ret_noGoto ?_ | refine exit_noGoto ?_ | refine awp_scope ?_
        | ((with_reducible refine exit_past ?_ ?_); exact rfl)
        | ((with_reducible refine isCond ?_); refine awp_condO rfl ?_ ?_ <;> intro hb <;> (try simp only [zH] at hb))
        | ((with_reducible refine isRegS 10 ?_ ?_); (· exact rfl); (first | refine awp_textM htb hmz spVa_ok (fun _ => false) rfl rfl ?_ | refine awp_drawM hmo htb hmz spVa_ok (fun _ => false) rfl rfl (by kernel_rfl) ?_); intro m' e' l' ob h; simp only [zE0, zE1, zE2, zE3, zE4, zE5, evp, evx, ev1, evLoad, evStore, evBin, isBoolK, forall_const, z38, tb, Nat.reduceAdd, Nat.reduceSub, Nat.reduceMul, Nat.reduceEqDiff, Nat.reduceLeDiff, Nat.reduceLT, Nat.reduceBEq, Nat.reduceBNe, ↓reduceIte, reduceIte, spVa, compareS, vlA] at h; obtain ⟨rfl, rfl, rfl, rfl⟩ := h; refine ⟨?_, ?_⟩)
        | ((with_reducible refine Ob.mk ?_); first | exact trivial | (intros; omega) | ((repeat' first | apply And.intro | (intro hg; have hg' := hg; try simp only [zH] at hg')) <;> first | assumption | omega | (simp only [zH]; omega)))
      generalize x.getD i [] = rw at *
      refine awp_loopC (τ := Nat) (fun j => j ≤ rw.length) (fun j => ⟨50, [(48, .int .i64 j), (47, .int .i64 rw.length), (46, .roI rw), (7, .own 26), (6, .int .i64 i), (13, .int .i64 i), (12, .int .i64 o.length), (5, .bool (btIn pl l (rw.take j) (now, s.1.getD i 0, s.2)).2.2), (1, .own 0), (2, .own 2)], [(0, some (.avs 3 o.length fun j => vlA (l j))), (1, some (.ints (s.1.set i (btIn pl l (rw.take j) (now, s.1.getD i 0, s.2)).2.1))), (2, some (.box (.agg (.cons (.roI o) (.cons (.roI p) (.cons (.roII x) (.cons (.int .i64 pl) (.cons (.bool st.e) (.cons (.bool st.n) (.cons (.roI st.m) (.cons (.roB ls) (.cons (.own 1) .nil)))))))))))), (26, some (.box (vlA (btIn pl l (rw.take j) (now, s.1.getD i 0, s.2)).1)))], []⟩) (fun j => rw.length - j) 0 [] ?_ (Nat.zero_le _) ?_
      · (refine ⟨rfl, ?_, ?_⟩ <;> simp only [zE0, zE1, zE2, zE3, zE4, zE5, evp, evx, ev1, evLoad, evStore, evBin, isBoolK, forall_const, z38, tb, Nat.reduceAdd, Nat.reduceSub, Nat.reduceMul, Nat.reduceEqDiff, Nat.reduceLeDiff, Nat.reduceLT, Nat.reduceBEq, Nat.reduceBNe, ↓reduceIte, reduceIte, spVa, compareS, vlA, zI])
        · rfl
        · exact ⟨hse.symm, rfl, rfl, rfl⟩
      intro j hj
      have hbj := @btIn_next pl l rw (now, s.1.getD i 0, s.2) j
      have hrj := hrow.2 j
      have hok : VOK K D (btIn pl l (rw.take j) (now, s.1.getD i 0, s.2)).1 := btIn_ok hwok fun w hw => by
        obtain ⟨t, ht, rfl⟩ := mem_ix (List.mem_of_mem_take hw)
        have := hrow.2 t ht
        exact hvo _ (by omega)
      repeat' first
        | with_reducible first | refine awp_seq ?_ | refine awp_block ?_ | refine next_then ?_ | refine next_block ?_ | refine exit_then ?_ | refine ret_then ?_ | refine ret_block ?_ | refine exit_here ?_ | refine awp_exit ?_ | refine awp_ret ?_ | refine awp_skip ?_ | refine awp_label ?_ | refine next_noGoto ?_ | refine ret_noGoto ?_ | refine exit_noGoto ?_ | refine awp_scope ?_
        | ((with_reducible refine exit_past ?_ ?_); exact rfl)
        | ((with_reducible refine isCond ?_); refine awp_condO rfl ?_ ?_ <;> intro hb <;> (try simp only [zH] at hb))
        | ((with_reducible refine isRegS 12 ?_ ?_); (· exact rfl); (with_reducible refine isRegS 15 ?_ ?_); (· exact rfl); (with_reducible refine isRegS 15 ?_ ?_); (· exact rfl); (first | refine awp_textM htb hmz spVa_ok (fun _ => false) rfl rfl ?_ | refine awp_drawM hmo htb hmz spVa_ok (fun _ => false) rfl rfl (by kernel_rfl) ?_); intro m' e' l' ob h; simp only [zE0, zE1, zE2, zE3, zE4, zE5, evp, evx, ev1, evLoad, evStore, evBin, isBoolK, forall_const, z38, tb, Nat.reduceAdd, Nat.reduceSub, Nat.reduceMul, Nat.reduceEqDiff, Nat.reduceLeDiff, Nat.reduceLT, Nat.reduceBEq, Nat.reduceBNe, ↓reduceIte, reduceIte, spVa, compareS, vlA] at h; obtain ⟨rfl, rfl, rfl, rfl⟩ := h; refine ⟨?_, ?_⟩)
        | ((with_reducible refine Ob.mk ?_); first | exact trivial | (intros; omega) | ((repeat' first | apply And.intro | (intro hg; have hg' := hg; try simp only [zH] at hg')) <;> first | (with_reducible exact True.intro) | assumption | omega | (simp only [zH]; omega)))
      · have hjl : j < rw.length := by omega
        obtain ⟨c1, c2⟩ := hrj hjl
        have hbj := hbj hjl
        have hvw := hvo (rw.getD j 0).toNat (by omega)
        generalize btIn pl l (rw.take j) (now, s.1.getD i 0, s.2) = r at *
        generalize rw.getD j 0 = w at *
        repeat' first
          | with_reducible first | refine awp_seq ?_ | refine awp_block ?_ | refine next_then ?_ | refine next_block ?_ | refine exit_then ?_ | refine ret_then ?_ | refine ret_block ?_ | refine exit_here ?_ | refine awp_exit ?_ | refine awp_ret ?_ | refine awp_skip ?_ | refine awp_label ?_ | refine next_noGoto ?_ | refine ret_noGoto ?_ | refine exit_noGoto ?_ | refine awp_scope ?_
          | ((with_reducible refine exit_past ?_ ?_); exact rfl)
          | ((with_reducible refine isCond ?_); refine awp_condO rfl ?_ ?_ <;> intro hb <;> (try simp only [zH] at hb))
          | ((with_reducible refine isRegS 13 ?_ ?_); (· exact rfl); (with_reducible refine isRegS 14 ?_ ?_); (· exact rfl); (with_reducible refine isRegS 15 ?_ ?_); (· exact rfl); (first | refine awp_textM htb hmz spVa_ok (fun _ => false) rfl rfl ?_ | refine awp_drawM hmo htb hmz spVa_ok (fun _ => false) rfl rfl (by kernel_rfl) ?_); intro m' e' l' ob h; simp only [zE0, zE1, zE2, zE3, zE4, zE5, evp, evx, ev1, evLoad, evStore, evBin, isBoolK, forall_const, z38, tb, Nat.reduceAdd, Nat.reduceSub, Nat.reduceMul, Nat.reduceEqDiff, Nat.reduceLeDiff, Nat.reduceLT, Nat.reduceBEq, Nat.reduceBNe, ↓reduceIte, reduceIte, spVa, compareS, vlA] at h; obtain ⟨rfl, rfl, rfl, rfl⟩ := h; refine ⟨?_, ?_⟩)
          | ((with_reducible refine Ob.mk ?_); first | exact trivial | (intros; omega) | ((repeat' first | apply And.intro | (intro hg; have hg' := hg; try simp only [zH] at hg')) <;> first | (with_reducible exact True.intro) | assumption | omega | (simp only [zH]; omega)))
        · refine Ob.mk ⟨⟨⟨by omega, by omega⟩, by omega⟩, hvw.1, fun h1 h2 => ?_⟩
          rw [(hvw.2 h1).1, (hok.2 h2).1]
          exact Nat.le_refl _
        · rw [if_pos hb] at hbj
          repeat' first
            | with_reducible first | refine awp_seq ?_ | refine awp_block ?_ | refine next_then ?_ | refine next_block ?_ | refine exit_then ?_ | refine ret_then ?_ | refine ret_block ?_ | refine exit_here ?_ | refine awp_exit ?_ | refine awp_ret ?_ | refine awp_skip ?_ | refine awp_label ?_ | refine next_noGoto ?_ | refine ret_noGoto ?_ | refine exit_noGoto ?_ | refine awp_scope ?_
            | ((with_reducible refine exit_past ?_ ?_); exact rfl)
            | ((with_reducible refine isCond ?_); refine awp_condO rfl ?_ ?_ <;> intro hb <;> (try simp only [zH] at hb))
            | ((with_reducible refine isReg ?_); (first | refine awp_textM htb hmz spVa_ok (fun _ => false) rfl rfl ?_ | refine awp_drawM hmo htb hmz spVa_ok (fun _ => false) rfl rfl (by kernel_rfl) ?_); intro m' e' l' ob h; simp only [zE0, zE1, zE2, zE3, zE4, zE5, evp, evx, ev1, evLoad, evStore, evBin, isBoolK, forall_const, z38, tb, Nat.reduceAdd, Nat.reduceSub, Nat.reduceMul, Nat.reduceEqDiff, Nat.reduceLeDiff, Nat.reduceLT, Nat.reduceBEq, Nat.reduceBNe, ↓reduceIte, reduceIte, spVa, compareS, vlA] at h; obtain ⟨rfl, rfl, rfl, rfl⟩ := h; refine ⟨?_, ?_⟩)
            | ((with_reducible refine Ob.mk ?_); first | exact trivial | (intros; omega) | ((repeat' first | apply And.intro | (intro hg; have hg' := hg; try simp only [zH] at hg')) <;> first | (with_reducible exact True.intro) | assumption | omega | (simp only [zH]; omega)))
          refine back (j + 1) [] ?_ (by omega) (by omega)
          (refine ⟨rfl, ?_, ?_⟩ <;> simp only [zE0, zE1, zE2, zE3, zE4, zE5, evp, evx, ev1, evLoad, evStore, evBin, isBoolK, forall_const, z38, tb, Nat.reduceAdd, Nat.reduceSub, Nat.reduceMul, Nat.reduceEqDiff, Nat.reduceLeDiff, Nat.reduceLT, Nat.reduceBEq, Nat.reduceBNe, ↓reduceIte, reduceIte, spVa, compareS, vlA, zI])
          all_goals rw [hbj]
          exact ⟨by rw [List.set_set], rfl, rfl, rfl⟩
        · rw [if_neg (Int.not_lt.2 hb)] at hbj
          repeat' first
            | with_reducible first | refine awp_seq ?_ | refine awp_block ?_ | refine next_then ?_ | refine next_block ?_ | refine exit_then ?_ | refine ret_then ?_ | refine ret_block ?_ | refine exit_here ?_ | refine awp_exit ?_ | refine awp_ret ?_ | refine awp_skip ?_ | refine awp_label ?_ | refine next_noGoto ?_ | refine ret_noGoto ?_ | refine exit_noGoto ?_ | refine awp_scope ?_
            | ((with_reducible refine exit_past ?_ ?_); exact rfl)
            | ((with_reducible refine isCond ?_); refine awp_condO rfl ?_ ?_ <;> intro hb <;> (try simp only [zH] at hb))
            | ((with_reducible refine isReg ?_); (first | refine awp_textM htb hmz spVa_ok (fun _ => false) rfl rfl ?_ | refine awp_drawM hmo htb hmz spVa_ok (fun _ => false) rfl rfl (by kernel_rfl) ?_); intro m' e' l' ob h; simp only [zE0, zE1, zE2, zE3, zE4, zE5, evp, evx, ev1, evLoad, evStore, evBin, isBoolK, forall_const, z38, tb, Nat.reduceAdd, Nat.reduceSub, Nat.reduceMul, Nat.reduceEqDiff, Nat.reduceLeDiff, Nat.reduceLT, Nat.reduceBEq, Nat.reduceBNe, ↓reduceIte, reduceIte, spVa, compareS, vlA] at h; obtain ⟨rfl, rfl, rfl, rfl⟩ := h; refine ⟨?_, ?_⟩)
            | ((with_reducible refine Ob.mk ?_); first | exact trivial | (intros; omega) | ((repeat' first | apply And.intro | (intro hg; have hg' := hg; try simp only [zH] at hg')) <;> first | (with_reducible exact True.intro) | assumption | omega | (simp only [zH]; omega)))
          refine back (j + 1) [] ?_ (by omega) (by omega)
          (refine ⟨rfl, ?_, ?_⟩ <;> simp only [zE0, zE1, zE2, zE3, zE4, zE5, evp, evx, ev1, evLoad, evStore, evBin, isBoolK, forall_const, z38, tb, Nat.reduceAdd, Nat.reduceSub, Nat.reduceMul, Nat.reduceEqDiff, Nat.reduceLeDiff, Nat.reduceLT, Nat.reduceBEq, Nat.reduceBNe, ↓reduceIte, reduceIte, spVa, compareS, vlA, zI])
          all_goals rw [hbj]
          exact ⟨rfl, rfl, rfl, rfl⟩
      have hje : j = rw.length := by omega
      subst hje
      rw [List.take_length]
      repeat' first
        | with_reducible first | refine awp_seq ?_ | refine awp_block ?_ | refine next_then ?_ | refine next_block ?_ | refine exit_then ?_ | refine ret_then ?_ | refine ret_block ?_ | refine exit_here ?_ | refine awp_exit ?_ | refine awp_ret ?_ | refine awp_skip ?_ | refine awp_label ?_ | refine next_noGoto ?_ | refine ret_noGoto ?_ | refine exit_noGoto ?_ | refine awp_scope ?_
        | ((with_reducible refine exit_past ?_ ?_); exact rfl)
        | ((with_reducible refine isCond ?_); refine awp_condO rfl ?_ ?_ <;> intro hb <;> (try simp only [zH] at hb))
        | ((with_reducible refine isReg ?_); (first | refine awp_textM htb hmz spVa_ok (fun _ => false) rfl rfl ?_ | refine awp_drawM hmo htb hmz spVa_ok (fun _ => false) rfl rfl (by kernel_rfl) ?_); intro m' e' l' ob h; simp only [zE0, zE1, zE2, zE3, zE4, zE5, evp, evx, ev1, evLoad, evStore, evBin, isBoolK, forall_const, z38, tb, Nat.reduceAdd, Nat.reduceSub, Nat.reduceMul, Nat.reduceEqDiff, Nat.reduceLeDiff, Nat.reduceLT, Nat.reduceBEq, Nat.reduceBNe, ↓reduceIte, reduceIte, spVa, compareS, vlA] at h; obtain ⟨rfl, rfl, rfl, rfl⟩ := h; refine ⟨?_, ?_⟩)
        | ((with_reducible refine Ob.mk ?_); first | exact trivial | (intros; omega) | ((repeat' first | apply And.intro | (intro hg; have hg' := hg; try simp only [zH] at hg')) <;> first | (with_reducible exact True.intro) | assumption | omega | (simp only [zH]; omega)))
      refine back (i + 1) [] ?_ (by omega) (by omega)
      (refine ⟨rfl, ?_, ?_⟩ <;> simp only [zE0, zE1, zE2, zE3, zE4, zE5, evp, evx, ev1, evLoad, evStore, evBin, isBoolK, forall_const, z38, tb, Nat.reduceAdd, Nat.reduceSub, Nat.reduceMul, Nat.reduceEqDiff, Nat.reduceLeDiff, Nat.reduceLT, Nat.reduceBEq, Nat.reduceBNe, ↓reduceIte, reduceIte, spVa, compareS, vlA, zI])
      all_goals rw [hbn1]
    · have hnw2 := hnw2 (by omega)
      refine awp_leC ⟨50, [(7, .own 26), (6, .int .i64 i), (13, .int .i64 i), (12, .int .i64 o.length), (5, .bool s.2), (1, .own 0), (2, .own 2)], [(0, some (.avs 3 o.length fun j => vlA (l j))), (1, some (.ints s.1)), (2, some (.box (.agg (.cons (.roI o) (.cons (.roI p) (.cons (.roII x) (.cons (.int .i64 pl) (.cons (.bool st.e) (.cons (.bool st.n) (.cons (.roI st.m) (.cons (.roB ls) (.cons (.own 1) .nil)))))))))))), (26, some (.box (vlA now)))], []⟩ [] ?_ ?_
      · (refine ⟨rfl, ?_, ?_⟩ <;> simp only [zE0, zE1, zE2, zE3, zE4, zE5, evp, evx, ev1, evLoad, evStore, evBin, isBoolK, forall_const, z38, tb, Nat.reduceAdd, Nat.reduceSub, Nat.reduceMul, Nat.reduceEqDiff, Nat.reduceLeDiff, Nat.reduceLT, Nat.reduceBEq, Nat.reduceBNe, ↓reduceIte, reduceIte, spVa, compareS, vlA, zI])
        rw [hnw2]
        exact ⟨rfl, rfl, rfl⟩
      clear hlt1
      repeat' first
        | with_reducible first | refine awp_seq ?_ | refine awp_block ?_ | refine next_then ?_ | refine next_block ?_ | refine exit_then ?_ | refine ret_then ?_ | refine ret_block ?_ | refine exit_here ?_ | refine awp_exit ?_ | refine awp_ret ?_ | refine awp_skip ?_ | refine awp_label ?_ | refine next_noGoto ?_ | refine ret_noGoto ?_ | refine exit_noGoto ?_ | refine awp_scope ?_
        | ((with_reducible refine exit_past ?_ ?_); exact rfl)
        | ((with_reducible refine isCond ?_); refine awp_condO rfl ?_ ?_ <;> intro hb <;> (try simp only [zH] at hb))
        | ((with_reducible refine isRegS 10 ?_ ?_); (· exact rfl); (first | refine awp_textM htb hmz spVa_ok (fun _ => false) rfl rfl ?_ | refine awp_drawM hmo htb hmz spVa_ok (fun _ => false) rfl rfl (by kernel_rfl) ?_); intro m' e' l' ob h; simp only [zE0, zE1, zE2, zE3, zE4, zE5, evp, evx, ev1, evLoad, evStore, evBin, isBoolK, forall_const, z38, tb, Nat.reduceAdd, Nat.reduceSub, Nat.reduceMul, Nat.reduceEqDiff, Nat.reduceLeDiff, Nat.reduceLT, Nat.reduceBEq, Nat.reduceBNe, ↓reduceIte, reduceIte, spVa, compareS, vlA] at h; obtain ⟨rfl, rfl, rfl, rfl⟩ := h; refine ⟨?_, ?_⟩)
        | ((with_reducible refine Ob.mk ?_); first | exact trivial | (intros; omega) | ((repeat' first | apply And.intro | (intro hg; have hg' := hg; try simp only [zH] at hg')) <;> first | assumption | omega | (simp only [zH]; omega)))
      generalize x.getD i [] = rw at *
      refine awp_loopC (τ := Nat) (fun j => j ≤ rw.length) (fun j => ⟨50, [(48, .int .i64 j), (47, .int .i64 rw.length), (46, .roI rw), (7, .own 26), (6, .int .i64 i), (13, .int .i64 i), (12, .int .i64 o.length), (5, .bool (btIn pl l (rw.take j) (now, s.1.getD i 0, s.2)).2.2), (1, .own 0), (2, .own 2)], [(0, some (.avs 3 o.length fun j => vlA (l j))), (1, some (.ints (s.1.set i (btIn pl l (rw.take j) (now, s.1.getD i 0, s.2)).2.1))), (2, some (.box (.agg (.cons (.roI o) (.cons (.roI p) (.cons (.roII x) (.cons (.int .i64 pl) (.cons (.bool st.e) (.cons (.bool st.n) (.cons (.roI st.m) (.cons (.roB ls) (.cons (.own 1) .nil)))))))))))), (26, some (.box (vlA (btIn pl l (rw.take j) (now, s.1.getD i 0, s.2)).1)))], []⟩) (fun j => rw.length - j) 0 [] ?_ (Nat.zero_le _) ?_
      · (refine ⟨rfl, ?_, ?_⟩ <;> simp only [zE0, zE1, zE2, zE3, zE4, zE5, evp, evx, ev1, evLoad, evStore, evBin, isBoolK, forall_const, z38, tb, Nat.reduceAdd, Nat.reduceSub, Nat.reduceMul, Nat.reduceEqDiff, Nat.reduceLeDiff, Nat.reduceLT, Nat.reduceBEq, Nat.reduceBNe, ↓reduceIte, reduceIte, spVa, compareS, vlA, zI])
        · rfl
        · exact ⟨hse.symm, rfl, rfl, rfl⟩
      intro j hj
      have hbj := @btIn_next pl l rw (now, s.1.getD i 0, s.2) j
      have hrj := hrow.2 j
      have hok : VOK K D (btIn pl l (rw.take j) (now, s.1.getD i 0, s.2)).1 := btIn_ok hwok fun w hw => by
        obtain ⟨t, ht, rfl⟩ := mem_ix (List.mem_of_mem_take hw)
        have := hrow.2 t ht
        exact hvo _ (by omega)
      repeat' first
        | with_reducible first | refine awp_seq ?_ | refine awp_block ?_ | refine next_then ?_ | refine next_block ?_ | refine exit_then ?_ | refine ret_then ?_ | refine ret_block ?_ | refine exit_here ?_ | refine awp_exit ?_ | refine awp_ret ?_ | refine awp_skip ?_ | refine awp_label ?_ | refine next_noGoto ?_ | refine ret_noGoto ?_ | refine exit_noGoto ?_ | refine awp_scope ?_
        | ((with_reducible refine exit_past ?_ ?_); exact rfl)
        | ((with_reducible refine isCond ?_); refine awp_condO rfl ?_ ?_ <;> intro hb <;> (try simp only [zH] at hb))
        | ((with_reducible refine isRegS 12 ?_ ?_); (· exact rfl); (with_reducible refine isRegS 15 ?_ ?_); (· exact rfl); (with_reducible refine isRegS 15 ?_ ?_); (· exact rfl); (first | refine awp_textM htb hmz spVa_ok (fun _ => false) rfl rfl ?_ | refine awp_drawM hmo htb hmz spVa_ok (fun _ => false) rfl rfl (by kernel_rfl) ?_); intro m' e' l' ob h; simp only [zE0, zE1, zE2, zE3, zE4, zE5, evp, evx, ev1, evLoad, evStore, evBin, isBoolK, forall_const, z38, tb, Nat.reduceAdd, Nat.reduceSub, Nat.reduceMul, Nat.reduceEqDiff, Nat.reduceLeDiff, Nat.reduceLT, Nat.reduceBEq, Nat.reduceBNe, ↓reduceIte, reduceIte, spVa, compareS, vlA] at h; obtain ⟨rfl, rfl, rfl, rfl⟩ := h; refine ⟨?_, ?_⟩)
        | ((with_reducible refine Ob.mk ?_); first | exact trivial | (intros; omega) | ((repeat' first | apply And.intro | (intro hg; have hg' := hg; try simp only [zH] at hg')) <;> first | (with_reducible exact True.intro) | assumption | omega | (simp only [zH]; omega)))
      · have hjl : j < rw.length := by omega
        obtain ⟨c1, c2⟩ := hrj hjl
        have hbj := hbj hjl
        have hvw := hvo (rw.getD j 0).toNat (by omega)
        generalize btIn pl l (rw.take j) (now, s.1.getD i 0, s.2) = r at *
        generalize rw.getD j 0 = w at *
        repeat' first
          | with_reducible first | refine awp_seq ?_ | refine awp_block ?_ | refine next_then ?_ | refine next_block ?_ | refine exit_then ?_ | refine ret_then ?_ | refine ret_block ?_ | refine exit_here ?_ | refine awp_exit ?_ | refine awp_ret ?_ | refine awp_skip ?_ | refine awp_label ?_ | refine next_noGoto ?_ | refine ret_noGoto ?_ | refine exit_noGoto ?_ | refine awp_scope ?_
          | ((with_reducible refine exit_past ?_ ?_); exact rfl)
          | ((with_reducible refine isCond ?_); refine awp_condO rfl ?_ ?_ <;> intro hb <;> (try simp only [zH] at hb))
          | ((with_reducible refine isRegS 13 ?_ ?_); (· exact rfl); (with_reducible refine isRegS 14 ?_ ?_); (· exact rfl); (with_reducible refine isRegS 15 ?_ ?_); (· exact rfl); (first | refine awp_textM htb hmz spVa_ok (fun _ => false) rfl rfl ?_ | refine awp_drawM hmo htb hmz spVa_ok (fun _ => false) rfl rfl (by kernel_rfl) ?_); intro m' e' l' ob h; simp only [zE0, zE1, zE2, zE3, zE4, zE5, evp, evx, ev1, evLoad, evStore, evBin, isBoolK, forall_const, z38, tb, Nat.reduceAdd, Nat.reduceSub, Nat.reduceMul, Nat.reduceEqDiff, Nat.reduceLeDiff, Nat.reduceLT, Nat.reduceBEq, Nat.reduceBNe, ↓reduceIte, reduceIte, spVa, compareS, vlA] at h; obtain ⟨rfl, rfl, rfl, rfl⟩ := h; refine ⟨?_, ?_⟩)
          | ((with_reducible refine Ob.mk ?_); first | exact trivial | (intros; omega) | ((repeat' first | apply And.intro | (intro hg; have hg' := hg; try simp only [zH] at hg')) <;> first | (with_reducible exact True.intro) | assumption | omega | (simp only [zH]; omega)))
        · refine Ob.mk ⟨⟨⟨by omega, by omega⟩, by omega⟩, hvw.1, fun h1 h2 => ?_⟩
          rw [(hvw.2 h1).1, (hok.2 h2).1]
          exact Nat.le_refl _
        · rw [if_pos hb] at hbj
          repeat' first
            | with_reducible first | refine awp_seq ?_ | refine awp_block ?_ | refine next_then ?_ | refine next_block ?_ | refine exit_then ?_ | refine ret_then ?_ | refine ret_block ?_ | refine exit_here ?_ | refine awp_exit ?_ | refine awp_ret ?_ | refine awp_skip ?_ | refine awp_label ?_ | refine next_noGoto ?_ | refine ret_noGoto ?_ | refine exit_noGoto ?_ | refine awp_scope ?_
            | ((with_reducible refine exit_past ?_ ?_); exact rfl)
            | ((with_reducible refine isCond ?_); refine awp_condO rfl ?_ ?_ <;> intro hb <;> (try simp only [zH] at hb))
            | ((with_reducible refine isReg ?_); (first | refine awp_textM htb hmz spVa_ok (fun _ => false) rfl rfl ?_ | refine awp_drawM hmo htb hmz spVa_ok (fun _ => false) rfl rfl (by kernel_rfl) ?_); intro m' e' l' ob h; simp only [zE0, zE1, zE2, zE3, zE4, zE5, evp, evx, ev1, evLoad, evStore, evBin, isBoolK, forall_const, z38, tb, Nat.reduceAdd, Nat.reduceSub, Nat.reduceMul, Nat.reduceEqDiff, Nat.reduceLeDiff, Nat.reduceLT, Nat.reduceBEq, Nat.reduceBNe, ↓reduceIte, reduceIte, spVa, compareS, vlA] at h; obtain ⟨rfl, rfl, rfl, rfl⟩ := h; refine ⟨?_, ?_⟩)
            | ((with_reducible refine Ob.mk ?_); first | exact trivial | (intros; omega) | ((repeat' first | apply And.intro | (intro hg; have hg' := hg; try simp only [zH] at hg')) <;> first | (with_reducible exact True.intro) | assumption | omega | (simp only [zH]; omega)))
          refine back (j + 1) [] ?_ (by omega) (by omega)
          (refine ⟨rfl, ?_, ?_⟩ <;> simp only [zE0, zE1, zE2, zE3, zE4, zE5, evp, evx, ev1, evLoad, evStore, evBin, isBoolK, forall_const, z38, tb, Nat.reduceAdd, Nat.reduceSub, Nat.reduceMul, Nat.reduceEqDiff, Nat.reduceLeDiff, Nat.reduceLT, Nat.reduceBEq, Nat.reduceBNe, ↓reduceIte, reduceIte, spVa, compareS, vlA, zI])
          all_goals rw [hbj]
          exact ⟨by rw [List.set_set], rfl, rfl, rfl⟩
        · rw [if_neg (Int.not_lt.2 hb)] at hbj
          repeat' first
            | with_reducible first | refine awp_seq ?_ | refine awp_block ?_ | refine next_then ?_ | refine next_block ?_ | refine exit_then ?_ | refine ret_then ?_ | refine ret_block ?_ | refine exit_here ?_ | refine awp_exit ?_ | refine awp_ret ?_ | refine awp_skip ?_ | refine awp_label ?_ | refine next_noGoto ?_ | refine ret_noGoto ?_ | refine exit_noGoto ?_ | refine awp_scope ?_
            | ((with_reducible refine exit_past ?_ ?_); exact rfl)
            | ((with_reducible refine isCond ?_); refine awp_condO rfl ?_ ?_ <;> intro hb <;> (try simp only [zH] at hb))
            | ((with_reducible refine isReg ?_); (first | refine awp_textM htb hmz spVa_ok (fun _ => false) rfl rfl ?_ | refine awp_drawM hmo htb hmz spVa_ok (fun _ => false) rfl rfl (by kernel_rfl) ?_); intro m' e' l' ob h; simp only [zE0, zE1, zE2, zE3, zE4, zE5, evp, evx, ev1, evLoad, evStore, evBin, isBoolK, forall_const, z38, tb, Nat.reduceAdd, Nat.reduceSub, Nat.reduceMul, Nat.reduceEqDiff, Nat.reduceLeDiff, Nat.reduceLT, Nat.reduceBEq, Nat.reduceBNe, ↓reduceIte, reduceIte, spVa, compareS, vlA] at h; obtain ⟨rfl, rfl, rfl, rfl⟩ := h; refine ⟨?_, ?_⟩)
            | ((with_reducible refine Ob.mk ?_); first | exact trivial | (intros; omega) | ((repeat' first | apply And.intro | (intro hg; have hg' := hg; try simp only [zH] at hg')) <;> first | (with_reducible exact True.intro) | assumption | omega | (simp only [zH]; omega)))
          refine back (j + 1) [] ?_ (by omega) (by omega)
          (refine ⟨rfl, ?_, ?_⟩ <;> simp only [zE0, zE1, zE2, zE3, zE4, zE5, evp, evx, ev1, evLoad, evStore, evBin, isBoolK, forall_const, z38, tb, Nat.reduceAdd, Nat.reduceSub, Nat.reduceMul, Nat.reduceEqDiff, Nat.reduceLeDiff, Nat.reduceLT, Nat.reduceBEq, Nat.reduceBNe, ↓reduceIte, reduceIte, spVa, compareS, vlA, zI])
          all_goals rw [hbj]
          exact ⟨rfl, rfl, rfl, rfl⟩
      have hje : j = rw.length := by omega
      subst hje
      rw [List.take_length]
      repeat' first
        | with_reducible first | refine awp_seq ?_ | refine awp_block ?_ | refine next_then ?_ | refine next_block ?_ | refine exit_then ?_ | refine ret_then ?_ | refine ret_block ?_ | refine exit_here ?_ | refine awp_exit ?_ | refine awp_ret ?_ | refine awp_skip ?_ | refine awp_label ?_ | refine next_noGoto ?_ | refine ret_noGoto ?_ | refine exit_noGoto ?_ | refine awp_scope ?_
        | ((with_reducible refine exit_past ?_ ?_); exact rfl)
        | ((with_reducible refine isCond ?_); refine awp_condO rfl ?_ ?_ <;> intro hb <;> (try simp only [zH] at hb))
        | ((with_reducible refine isReg ?_); (first | refine awp_textM htb hmz spVa_ok (fun _ => false) rfl rfl ?_ | refine awp_drawM hmo htb hmz spVa_ok (fun _ => false) rfl rfl (by kernel_rfl) ?_); intro m' e' l' ob h; simp only [zE0, zE1, zE2, zE3, zE4, zE5, evp, evx, ev1, evLoad, evStore, evBin, isBoolK, forall_const, z38, tb, Nat.reduceAdd, Nat.reduceSub, Nat.reduceMul, Nat.reduceEqDiff, Nat.reduceLeDiff, Nat.reduceLT, Nat.reduceBEq, Nat.reduceBNe, ↓reduceIte, reduceIte, spVa, compareS, vlA] at h; obtain ⟨rfl, rfl, rfl, rfl⟩ := h; refine ⟨?_, ?_⟩)
        | ((with_reducible refine Ob.mk ?_); first | exact trivial | (intros; omega) | ((repeat' first | apply And.intro | (intro hg; have hg' := hg; try simp only [zH] at hg')) <;> first | (with_reducible exact True.intro) | assumption | omega | (simp only [zH]; omega)))
      refine back (i + 1) [] ?_ (by omega) (by omega)
      (refine ⟨rfl, ?_, ?_⟩ <;> simp only [zE0, zE1, zE2, zE3, zE4, zE5, evp, evx, ev1, evLoad, evStore, evBin, isBoolK, forall_const, z38, tb, Nat.reduceAdd, Nat.reduceSub, Nat.reduceMul, Nat.reduceEqDiff, Nat.reduceLeDiff, Nat.reduceLT, Nat.reduceBEq, Nat.reduceBNe, ↓reduceIte, reduceIte, spVa, compareS, vlA, zI])
      all_goals rw [hbn1]
  have hie : i = o.length := by omega
  subst hie
  rw [hsd]
  repeat' first
    | with_reducible first | refine awp_seq ?_ | refine awp_block ?_ | refine next_then ?_ | refine next_block ?_ | refine exit_then ?_ | refine ret_then ?_ | refine ret_block ?_ | refine exit_here ?_ | refine awp_exit ?_ | refine awp_ret ?_ | refine awp_skip ?_ | refine awp_label ?_ | refine next_noGoto ?_ | refine ret_noGoto ?_ | refine exit_noGoto ?_ | refine awp_scope ?_
    | ((with_reducible refine exit_past ?_ ?_); exact rfl)
    | ((with_reducible refine isCond ?_); refine awp_condO rfl ?_ ?_ <;> intro hb <;> (try simp only [zH] at hb))
    | ((with_reducible refine isReg ?_); (first | refine awp_textM htb hmz spVa_ok (fun _ => false) rfl rfl ?_ | refine awp_drawM hmo htb hmz spVa_ok (fun _ => false) rfl rfl (by kernel_rfl) ?_); intro m' e' l' ob h; simp only [zE0, zE1, zE2, zE3, zE4, zE5, evp, evx, ev1, evLoad, evStore, evBin, isBoolK, forall_const, z38, tb, Nat.reduceAdd, Nat.reduceSub, Nat.reduceMul, Nat.reduceEqDiff, Nat.reduceLeDiff, Nat.reduceLT, Nat.reduceBEq, Nat.reduceBNe, ↓reduceIte, reduceIte, spVa, compareS, vlA] at h; obtain ⟨rfl, rfl, rfl, rfl⟩ := h; refine ⟨?_, ?_⟩)
    | ((with_reducible refine Ob.mk ?_); first | exact trivial | (intros; omega) | ((repeat' first | apply And.intro | (intro hg; have hg' := hg; try simp only [zH] at hg')) <;> first | (with_reducible exact True.intro) | assumption | omega | (simp only [zH]; omega)))
  refine fin_ret rfl rfl (gq_of (⟨2, .bool s.2, [(0, some (.avs 3 o.length fun j => vlA (l j))), (1, some (.ints s.1))]⟩) ([]) rfl rfl (imp_eq rfl) ?_)
  simp only [grR, zE0, zE1, zE2, zE3, zE4, zE5, evp, evx, ev1, evLoad, evStore, evBin, isBoolK, forall_const, z38, tb, Nat.reduceAdd, Nat.reduceSub, Nat.reduceMul, Nat.reduceEqDiff, Nat.reduceLeDiff, Nat.reduceLT, Nat.reduceBEq, Nat.reduceBNe, ↓reduceIte, reduceIte, spVa, compareS, vlA]
end Go.Proofs.Ytbcghiagomkadaa.Cal
namespace Go.Proofs.Ytbcghiagomkadaa.Cal
open Go
theorem fnd_shift {k : Int} : ∀ {es : List (Int × Int × Nat)} {i : Nat}, fnd k es (i + 1) = (fnd k es i).map fun p => (p.1 + 1, p.2)
  | [], _ => rfl
  | e :: t, i => by
    unfold fnd
    split
    · rfl
    · exact fnd_shift
theorem mget_cons {k : Int} {e : Int × Int × Nat} {t : List (Int × Int × Nat)} : mget k (e :: t) = if k = e.1 then e.2.1 else mget k t := by
  unfold mget
  rw [fnd]
  by_cases h : k = e.1
  · rw [if_pos h, if_pos h]
  · rw [if_neg h, if_neg h, fnd_shift]
    cases fnd k t 0 <;> rfl
theorem mput_cons {k v : Int} {c : Nat} {e : Int × Int × Nat} {t : List (Int × Int × Nat)} : mput k v c (e :: t) = if k = e.1 then (k, v, e.2.2) :: t else e :: mput k v c t := by
  unfold mput
  rw [fnd]
  by_cases h : k = e.1
  · rw [if_pos h, if_pos h]; rfl
  · rw [if_neg h, if_neg h, fnd_shift]
    cases fnd k t 0 <;> rfl
theorem mget_mput {k k' v : Int} {c : Nat} : ∀ {es : List (Int × Int × Nat)}, mget k (mput k' v c es) = if k = k' then v else mget k es
  | [] => by
    have : mput k' v c [] = [(k', v, c)] := rfl
    rw [this, mget_cons]
  | e :: t => by
    rw [mput_cons]
    by_cases h : k' = e.1
    · rw [if_pos h, mget_cons, mget_cons]
      dsimp only
      rw [← h]
      split <;> rfl
    · rw [if_neg h, mget_cons, mget_cons, mget_mput (es := t)]
      by_cases h2 : k = e.1
      · rw [if_pos h2, if_pos h2, if_neg (fun e2 : k = k' => h (by rw [← e2]; exact h2))]
      · rw [if_neg h2, if_neg h2]
theorem mhas_cons {k : Int} {e : Int × Int × Nat} {t : List (Int × Int × Nat)} : mhas k (e :: t) = if k = e.1 then true else mhas k t := by
  unfold mhas
  rw [fnd]
  by_cases h : k = e.1
  · rw [if_pos h, if_pos h]
  · rw [if_neg h, if_neg h, fnd_shift]
    cases fnd k t 0 <;> rfl
theorem mhas_mput {k k' v : Int} {c : Nat} : ∀ {es : List (Int × Int × Nat)}, mhas k (mput k' v c es) = if k = k' then true else mhas k es
  | [] => by
    have : mput k' v c [] = [(k', v, c)] := rfl
    rw [this, mhas_cons]
  | e :: t => by
    rw [mput_cons]
    by_cases h : k' = e.1
    · rw [if_pos h, mhas_cons, mhas_cons]
      dsimp only
      rw [← h]
      split <;> rfl
    · rw [if_neg h, mhas_cons, mhas_cons, mhas_mput (es := t)]
      by_cases h2 : k = e.1
      · rw [if_pos h2, if_pos h2]
        split <;> rfl
      · rw [if_neg h2, if_neg h2]
end Go.Proofs.Ytbcghiagomkadaa.Cal
namespace Go.Proofs.Ytbcghiagomkadaa.Cal
section
open Pl
/-- The map holds just the pairs. -/
structure MQ (es : List (Int × Int × Nat)) (L : List (Nat × Nat)) : Prop where
  has : ∀ v : Nat, mhas v es = decide (v ∈ L.map Prod.fst)
  get : ∀ v u : Nat, (v, u) ∈ L → mget v es = u
theorem MQ_nil : MQ [] [] := ⟨fun v => rfl, fun v u h => by cases h⟩
theorem MQ_put {es : List (Int × Int × Nat)} {L : List (Nat × Nat)} {w u c : Nat} (h : MQ es L) (hw : w ∉ L.map Prod.fst) : MQ (mput w u c es) (L ++ [(w, u)]) := by
  refine ⟨fun v => ?_, fun v z hv => ?_⟩
  · rw [mhas_mput, h.has]
    by_cases e : v = w
    · subst e; simp
    · rw [if_neg (by omega)]
      simp [e]
  · rw [mget_mput]
    rcases List.mem_append.1 hv with hv | hv
    · have : v ≠ w := fun e => hw (e ▸ List.mem_map.2 ⟨_, hv, rfl⟩)
      rw [if_neg (by omega)]
      exact h.get v z hv
    · rw [List.mem_singleton] at hv
      injection hv with h1 h2
      rw [if_pos (by omega), h2]
variable {nx : Nat → List Nat} {thr : Nat → Prop} {n fr : Nat} {L : List (Nat × Nat)} {i j v w u : Nat}
/-- All that was ever in the queue. -/
def qF (fr : Nat) (L : List (Nat × Nat)) : List Nat := fr :: L.map Prod.fst
/-- The first i of the queue are done, and the first j moves of the next one. -/
structure RQ (nx : Nat → List Nat) (thr : Nat → Prop) (n fr : Nat) (L : List (Nat × Nat)) (i j : Nat) : Prop where
  nd : (L.map Prod.fst).Nodup
  lt : ∀ v, v ∈ qF fr L → v < n
  hi : i ≤ (qF fr L).length
  ed : ∀ (k w u : Nat), L[k]? = some (w, u) → w ∈ nx u ∧ thr w ∧ u ∈ (qF fr L).take (k + 1)
  cl : ∀ u, u ∈ (qF fr L).take i → ∀ w, w ∈ nx u → thr w → w ∈ L.map Prod.fst
  cj : ∀ u, (qF fr L)[i]? = some u → ∀ w, w ∈ (nx u).take j → thr w → w ∈ L.map Prod.fst
theorem RQ_first (hf : fr < n) : RQ nx thr n fr [] 0 0 :=
  ⟨by simp, (fun v hv => by rw [show qF fr [] = [fr] from rfl, List.mem_singleton] at hv; omega), Nat.zero_le _, (fun k w u h => by simp at h), (fun u h => by simp at h), (fun u _ w h => by rw [List.take_zero] at h; cases h)⟩
theorem RQ_len (h : RQ nx thr n fr L i j) : L.length ≤ n := by
  have := nodup_len n _ h.nd fun x hx => h.lt x (List.mem_cons_of_mem _ hx)
  rwa [List.length_map] at this
theorem qF_len : (qF fr L).length = L.length + 1 := by simp [qF]
theorem RQ_skip (h : RQ nx thr n fr L i j) (hu : (qF fr L)[i]? = some u) (hw : (nx u)[j]? = some w) (hs : w ∈ L.map Prod.fst ∨ ¬ thr w) : RQ nx thr n fr L i (j + 1) := by
  refine ⟨h.nd, h.lt, h.hi, h.ed, h.cl, fun u' hu' w' hw' ht => ?_⟩
  obtain rfl : u = u' := by rw [hu] at hu'; injection hu'
  rw [List.take_add_one, hw, List.mem_append] at hw'
  rcases hw' with hw' | hw'
  · exact h.cj u hu w' hw' ht
  · rw [Option.toList_some, List.mem_singleton] at hw'
    subst hw'
    rcases hs with hs | hs
    · exact hs
    · exact absurd ht hs
theorem qF_snoc : qF fr (L ++ [(w, u)]) = qF fr L ++ [w] := by simp [qF]
theorem take_app {l : List Nat} {a k : Nat} (h : k ≤ l.length) : (l ++ [a]).take k = l.take k := List.take_append_of_le_length h
theorem RQ_add (h : RQ nx thr n fr L i j) (hu : (qF fr L)[i]? = some u) (hw : (nx u)[j]? = some w) (hwn : w < n) (hnew : w ∉ L.map Prod.fst) (ht : thr w) : RQ nx thr n fr (L ++ [(w, u)]) i (j + 1) := by
  have hi : i < (qF fr L).length := (List.getElem?_eq_some_iff.1 hu).1
  have hm : ∀ {x}, x ∈ L.map Prod.fst → x ∈ (L ++ [(w, u)]).map Prod.fst := fun {x} hx => by rw [List.map_append]; exact List.mem_append_left _ hx
  refine ⟨?_, fun v hv => ?_, ?_, fun k w' u' hk => ?_, fun u' hu' w' hw' ht' => ?_, fun u' hu' w' hw' ht' => ?_⟩
  · rw [List.map_append, List.nodup_append]
    refine ⟨h.nd, by simp, fun a ha b hb => ?_⟩
    rw [List.map_cons, List.map_nil, List.mem_singleton] at hb
    intro e
    have hb : b = w := hb
    exact hnew (by rw [← hb, ← e]; exact ha)
  · rw [qF_snoc, List.mem_append, List.mem_singleton] at hv
    rcases hv with hv | rfl
    · exact h.lt v hv
    · exact hwn
  · rw [qF_snoc, List.length_append]; omega
  · rw [qF_snoc]
    rcases Nat.lt_or_ge k L.length with hkl | hkl
    · rw [List.getElem?_append_left hkl] at hk
      obtain ⟨e1, e2, e3⟩ := h.ed k w' u' hk
      rw [take_app (by rw [qF_len]; omega)]
      exact ⟨e1, e2, e3⟩
    · rw [List.getElem?_append_right hkl] at hk
      have hk0 : k - L.length = 0 := by
        have := (List.getElem?_eq_some_iff.1 hk).1
        simp at this; omega
      rw [hk0] at hk
      simp only [List.getElem?_cons_zero, Option.some.injEq, Prod.mk.injEq] at hk
      obtain ⟨rfl, rfl⟩ := hk
      refine ⟨List.mem_of_getElem? hw, ht, ?_⟩
      have hkk : k = L.length := by omega
      subst hkk
      rw [take_app (by rw [qF_len]; exact Nat.le_refl _), List.take_of_length_le (by rw [qF_len]; exact Nat.le_refl _)]
      exact List.mem_of_getElem? hu
  · rw [qF_snoc, take_app (by omega)] at hu'
    exact hm (h.cl u' hu' w' hw' ht')
  · rw [qF_snoc, List.getElem?_append_left hi, hu] at hu'
    obtain rfl : u = u' := by injection hu'
    rw [List.take_add_one, hw, List.mem_append] at hw'
    rcases hw' with hw' | hw'
    · exact hm (h.cj u hu w' hw' ht')
    · rw [Option.toList_some, List.mem_singleton] at hw'
      subst hw'
      rw [List.map_append]
      exact List.mem_append_right _ (by simp)
theorem RQ_next (h : RQ nx thr n fr L i j) (hu : (qF fr L)[i]? = some u) (hj : (nx u).length ≤ j) : RQ nx thr n fr L (i + 1) 0 := by
  have hi : i < (qF fr L).length := (List.getElem?_eq_some_iff.1 hu).1
  refine ⟨h.nd, h.lt, hi, h.ed, fun u' hu' w' hw' ht' => ?_, fun u' _ w' hw' => by rw [List.take_zero] at hw'; cases hw'⟩
  rw [List.take_add_one, hu, List.mem_append] at hu'
  rcases hu' with hu' | hu'
  · exact h.cl u' hu' w' hw' ht'
  · rw [Option.toList_some, List.mem_singleton] at hu'
    subst hu'
    exact h.cj u' hu w' (by rw [List.take_of_length_le hj]; exact hw') ht'
/-- The search has ended. -/
def RE (nx : Nat → List Nat) (thr : Nat → Prop) (n fr : Nat) (L : List (Nat × Nat)) : Prop := RQ nx thr n fr L (qF fr L).length 0
/-- A step of the search. -/
def SE (nx : Nat → List Nat) (thr : Nat → Prop) (a b : Nat) : Prop := b ∈ nx a ∧ thr b
theorem RE_iff (h : RE nx thr n fr L) (w : Nat) : w ∈ L.map Prod.fst ↔ ∃ t, SE nx thr fr t ∧ Rch (SE nx thr) t w := by
  constructor
  · intro hw
    -- by the place of w
    obtain ⟨k, hk, e⟩ := List.getElem_of_mem hw
    have hkl : k < L.length := by simpa using hk
    induction k using Nat.strongRecOn generalizing w with
    | ind k ih =>
      have hLk : L[k]? = some (w, L[k].2) := by
        rw [List.getElem?_eq_getElem hkl]
        rw [List.getElem_map] at e
        rw [← e]
      obtain ⟨e1, e2, e3⟩ := h.ed k _ _ hLk
      rw [show qF fr L = fr :: L.map Prod.fst from rfl, List.take_succ_cons] at e3
      rcases List.mem_cons.1 e3 with e4 | e4
      · exact ⟨w, ⟨e4 ▸ e1, e2⟩, .refl _⟩
      · obtain ⟨k2, hk2, e5⟩ := List.getElem_of_mem e4
        rw [List.length_take] at hk2
        rw [List.getElem_take] at e5
        obtain ⟨t, t1, t2⟩ := ih k2 (by omega) L[k].2 (by rw [← e5]; exact List.getElem_mem _) (by omega) e5 (by simp at hk2; omega)
        exact ⟨t, t1, .step t2 ⟨e1, e2⟩⟩
  · rintro ⟨t, t1, t2⟩
    have hcl : ∀ u, u ∈ qF fr L → ∀ w, w ∈ nx u → thr w → w ∈ L.map Prod.fst := fun u hu => h.cl u (by rw [List.take_length]; exact hu)
    induction t2 with
    | refl => exact hcl fr List.mem_cons_self t t1.1 t1.2
    | step _ e ih => exact hcl _ (List.mem_cons_of_mem _ ih) _ e.1 e.2
/-- The way back so far: the last one met is v. -/
structure BkQ (nx : Nat → List Nat) (fr : Nat) (L : List (Nat × Nat)) (to : Nat) (v : Nat) (o : List Nat) : Prop where
  hd : ∃ o', o = to :: o'
  ks : ∀ z, z ∈ o → z ∈ L.map Prod.fst
  nd : o.Nodup
  nf : ∀ z, z ∈ o.drop 1 → z ≠ fr
  ch : ∀ (k a b : Nat), o[k]? = some a → (o ++ [v])[k + 1]? = some b → a ∈ nx b
  ix : v = fr ∨ ∃ k, k < L.length ∧ (L.map Prod.fst)[k]? = some v ∧ ∀ z, z ∈ o → ∃ k', k < k' ∧ (L.map Prod.fst)[k']? = some z
theorem key_at (h : RQ nx thr n fr L i j) {v : Nat} (hv : v ∈ L.map Prod.fst) : ∃ (k u : Nat), L[k]? = some (v, u) ∧ (v, u) ∈ L ∧ v ∈ nx u ∧ thr v ∧ (u = fr ∨ ∃ k', k' < k ∧ (L.map Prod.fst)[k']? = some u) := by
  obtain ⟨k, hk, e⟩ := List.getElem_of_mem hv
  have hkl : k < L.length := by simpa using hk
  have hLk : L[k]? = some (v, L[k].2) := by
    rw [List.getElem?_eq_getElem hkl]
    rw [List.getElem_map] at e
    rw [← e]
  obtain ⟨e1, e2, e3⟩ := h.ed k _ _ hLk
  refine ⟨k, L[k].2, hLk, List.mem_of_getElem? hLk, e1, e2, ?_⟩
  rw [show qF fr L = fr :: L.map Prod.fst from rfl, List.take_succ_cons] at e3
  rcases List.mem_cons.1 e3 with e4 | e4
  · exact .inl e4
  · obtain ⟨k2, hk2, e5⟩ := List.getElem_of_mem e4
    rw [List.length_take] at hk2
    rw [List.getElem_take] at e5
    exact .inr ⟨k2, by omega, by rw [← e5]; exact List.getElem?_eq_getElem _⟩
theorem nodup_ix {l : List Nat} (hn : l.Nodup) {a b z : Nat} (h1 : l[a]? = some z) (h2 : l[b]? = some z) : a = b := by
  obtain ⟨ha, e1⟩ := List.getElem?_eq_some_iff.1 h1
  obtain ⟨hb, e2⟩ := List.getElem?_eq_some_iff.1 h2
  rcases Nat.lt_trichotomy a b with h | h | h
  · exact absurd (e1.trans e2.symm) (List.pairwise_iff_getElem.1 hn a b ha hb h)
  · exact h
  · exact absurd (e2.trans e1.symm) (List.pairwise_iff_getElem.1 hn b a hb ha h)
theorem Bk_first (h : RQ nx thr n fr L i j) {to u : Nat} (hu : (to, u) ∈ L) : BkQ nx fr L to u [to] := by
  have hk : to ∈ L.map Prod.fst := List.mem_map.2 ⟨_, hu, rfl⟩
  obtain ⟨k, u', h1, h2, h3, h4, h5⟩ := key_at h hk
  have e : u = u' := by
    obtain ⟨a, ha, e1⟩ := List.getElem_of_mem hu
    have g1 : (L.map Prod.fst)[a]? = some to := by rw [List.getElem?_map, List.getElem?_eq_getElem ha, e1]; rfl
    have g2 : (L.map Prod.fst)[k]? = some to := by rw [List.getElem?_map, h1]; rfl
    have := nodup_ix h.nd g1 g2
    subst this
    rw [List.getElem?_eq_getElem ha, e1] at h1
    injection h1 with h1; injection h1
  subst e
  refine ⟨⟨[], rfl⟩, fun z hz => by rw [List.mem_singleton.1 hz]; exact hk, by simp, fun z hz => by simp at hz, fun k a b ha hb => ?_, ?_⟩
  · obtain rfl : k = 0 := by
      have := (List.getElem?_eq_some_iff.1 ha).1
      simp at this; omega
    simp at ha hb
    rw [← ha, ← hb]; exact h3
  · rcases h5 with h5 | ⟨k', h6, h7⟩
    · exact .inl h5
    · refine .inr ⟨k', by have := (List.getElem?_eq_some_iff.1 h7).1; simpa using this, h7, fun z hz => ?_⟩
      rw [List.mem_singleton.1 hz]
      exact ⟨k, h6, by rw [List.getElem?_map, h1]; rfl⟩
theorem Bk_key {to v : Nat} {o : List Nat} (hb : BkQ nx fr L to v o) (hv : v ≠ fr) : ∃ u, (v, u) ∈ L := by
  rcases hb.ix with e | ⟨k, h1, h2, _⟩
  · exact absurd e hv
  · rw [List.getElem?_map, List.getElem?_eq_getElem h1] at h2
    refine ⟨L[k].2, ?_⟩
    have : L[k] = (v, L[k].2) := by
      have h2 : L[k].1 = v := by injection h2
      rw [← h2]
    rw [← this]
    exact List.getElem_mem _
/-- The place of the last one met. -/
noncomputable def bkM (fr : Nat) (L : List (Nat × Nat)) (v : Nat) : Nat := if v = fr then 0 else (L.map Prod.fst).idxOf v + 1
theorem ix_of {l : List Nat} (hn : l.Nodup) {k z : Nat} (h : l[k]? = some z) : l.idxOf z = k := by
  have hm : z ∈ l := List.mem_of_getElem? h
  have hlt := List.idxOf_lt_length_of_mem hm
  refine nodup_ix hn (z := z) ?_ h
  rw [List.getElem?_eq_getElem hlt, List.getElem_idxOf hlt]
theorem Bk_next (h : RQ nx thr n fr L i j) {to u : Nat} {o : List Nat} (hb : BkQ nx fr L to v o) (hv : v ≠ fr) (hu : (v, u) ∈ L) : BkQ nx fr L to u (o ++ [v]) ∧ bkM fr L u < bkM fr L v := by
  obtain ⟨o', ho⟩ := hb.hd
  have hlen : 0 < o.length := by rw [ho]; simp
  have hkv : v ∈ L.map Prod.fst := List.mem_map.2 ⟨_, hu, rfl⟩
  obtain ⟨k, u', h1, h2, h3, h4, h5⟩ := key_at h hkv
  have gk : (L.map Prod.fst)[k]? = some v := by rw [List.getElem?_map, h1]; rfl
  have e : u = u' := by
    obtain ⟨a, ha, e1⟩ := List.getElem_of_mem hu
    have g1 : (L.map Prod.fst)[a]? = some v := by rw [List.getElem?_map, List.getElem?_eq_getElem ha, e1]; rfl
    have := nodup_ix h.nd g1 gk
    subst this
    rw [List.getElem?_eq_getElem ha, e1] at h1
    injection h1 with h1; injection h1
  subst e
  rcases hb.ix with e | ⟨kv, q1, q2, q3⟩
  · exact absurd e hv
  have ekv : kv = k := nodup_ix h.nd q2 gk
  subst ekv
  refine ⟨⟨⟨o' ++ [v], by rw [ho]; rfl⟩, fun z hz => ?_, ?_, fun z hz => ?_, fun k2 a b ha hb2 => ?_, ?_⟩, ?_⟩
  · rcases List.mem_append.1 hz with hz | hz
    · exact hb.ks z hz
    · rw [List.mem_singleton.1 hz]; exact hkv
  · refine List.nodup_append.2 ⟨hb.nd, by simp, fun a ha b hb2 => ?_⟩
    rw [List.mem_singleton.1 hb2]
    rintro rfl
    obtain ⟨k', q4, q5⟩ := q3 a ha
    have := nodup_ix h.nd q5 gk
    omega
  · rw [List.drop_append_of_le_length (by omega)] at hz
    rcases List.mem_append.1 hz with hz | hz
    · exact hb.nf z hz
    · rw [List.mem_singleton.1 hz]; exact hv
  · rcases Nat.lt_or_ge k2 o.length with hk2 | hk2
    · rw [List.getElem?_append_left hk2] at ha
      refine hb.ch k2 a b ha ?_
      rw [List.getElem?_append_left (by simp; omega)] at hb2
      exact hb2
    · have hk3 : k2 = o.length := by
        have := (List.getElem?_eq_some_iff.1 ha).1
        simp at this; omega
      subst hk3
      rw [List.getElem?_append_right (Nat.le_refl _), Nat.sub_self] at ha
      rw [List.getElem?_append_right (by simp)] at hb2
      simp at ha hb2
      rw [← ha, ← hb2]; exact h3
  · rcases h5 with h5 | ⟨k', h6, h7⟩
    · exact .inl h5
    · refine .inr ⟨k', by omega, h7, fun z hz => ?_⟩
      rcases List.mem_append.1 hz with hz | hz
      · obtain ⟨k2, q4, q5⟩ := q3 z hz
        exact ⟨k2, by omega, q5⟩
      · rw [List.mem_singleton.1 hz]
        exact ⟨kv, h6, gk⟩
  · unfold bkM
    rw [if_neg hv, ix_of h.nd gk]
    split
    · omega
    · rcases h5 with h5 | ⟨k', h6, h7⟩
      · rename_i h8; exact absurd h5 h8
      · rw [ix_of h.nd h7]; omega
theorem nodup_subL : ∀ {l m : List Nat}, l.Nodup → (∀ x, x ∈ l → x ∈ m) → l.length ≤ m.length
  | [], _, _, _ => Nat.zero_le _
  | a :: l, m, h, hs => by
    have hm := hs a List.mem_cons_self
    have := nodup_subL (l := l) (m := m.erase a) (List.nodup_cons.1 h).2 fun x hx => (List.mem_erase_of_ne (fun e : x = a => (List.nodup_cons.1 h).1 (e ▸ hx))).2 (hs x (List.mem_cons_of_mem _ hx))
    rw [List.length_erase_of_mem hm] at this
    have := List.length_pos_of_mem hm
    rw [List.length_cons]
    omega
theorem Bk_len {to : Nat} {o : List Nat} (hb : BkQ nx fr L to v o) : o.length ≤ L.length := by
  have := nodup_subL hb.nd hb.ks
  simpa using this
end
end Go.Proofs.Ytbcghiagomkadaa.Cal
