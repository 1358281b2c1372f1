/- Own texts of the proof, merged, in order. -/
import Derived.Test.YtbcghiagomkadaaS18
set_option linter.unusedVariables false
set_option linter.unusedSimpArgs false
namespace Go.Proofs.Ytbcghiagomkadaa.Cal
open Go Pl
/-- The best of a row, from the value of the choice on. -/
def btIn (pl : Int) (l : Nat → Vl) (row : List Int) (s : Vl × Int × Bool) : Vl × Int × Bool := row.foldl (fun s w => if 0 < cmpV pl (l w.toNat) s.1 then (l w.toNat, w, true) else s) s
theorem btIn_next {pl : Int} {l : Nat → Vl} {row : List Int} {s : Vl × Int × Bool} {i : Nat} (h : i < row.length) : btIn pl l (row.take (i + 1)) s = if 0 < cmpV pl (l (row.getD i 0).toNat) (btIn pl l (row.take i) s).1 then (l (row.getD i 0).toNat, row.getD i 0, true) else btIn pl l (row.take i) s := by
  unfold btIn
  rw [Zf3 (d := 0) h, List.foldl_append]; rfl
def nowV (h : Im) (ch : List Int) (l : Nat → Vl) (v : Nat) : Vl := if 0 ≤ ch.getD v 0 then l (ch.getD v 0).toNat else h.st
def bStep (h : Im) (l : Nat → Vl) (s : List Int × Bool) (v : Nat) : List Int × Bool :=
  if h.o.getD v 0 ≠ h.pl then s else (s.1.set v (btIn h.pl l (h.x.getD v []) (nowV h s.1 l v, s.1.getD v 0, s.2)).2.1, (btIn h.pl l (h.x.getD v []) (nowV h s.1 l v, s.1.getD v 0, s.2)).2.2)
/-- Better choices at the first i positions. -/
def bPass (h : Im) (l : Nat → Vl) (ch : List Int) (i : Nat) : List Int × Bool := (List.range i).foldl (bStep h l) (ch, false)
theorem Zez {h : Im} {l : Nat → Vl} {ch : List Int} {i : Nat} : bPass h l ch (i + 1) = bStep h l (bPass h l ch i) i := by
  unfold bPass
  rw [List.range_succ, List.foldl_append]; rfl
theorem bStep_len {h : Im} {l : Nat → Vl} {s : List Int × Bool} {v : Nat} : (bStep h l s v).1.length = s.1.length := by
  unfold bStep
  split
  · rfl
  · exact List.length_set
theorem Zdb {h : Im} {l : Nat → Vl} {ch : List Int} : ∀ {i : Nat}, (bPass h l ch i).1.length = ch.length
  | 0 => rfl
  | i + 1 => by rw [Zez, bStep_len, Zdb]
/-- The choice is one of the row, or as it was. -/
theorem btIn_ch {pl : Int} {l : Nat → Vl} {P : Vl × Int × Bool → Prop} : ∀ {row : List Int} {s : Vl × Int × Bool}, P s → (∀ s w, w ∈ row → P s → 0 < cmpV pl (l w.toNat) s.1 → P (l w.toNat, w, true)) → P (btIn pl l row s) := by
  intro row
  induction row with
  | nil => intro s h _; exact h
  | cons a row ih =>
    intro s h hP
    unfold btIn
    rw [List.foldl_cons]
    refine ih ?_ fun s w hw => hP s w (List.mem_cons_of_mem _ hw)
    split
    · rename_i h2
      exact hP s a List.mem_cons_self h h2
    · exact h
theorem Zgq {h : Im} {l : Nat → Vl} {ch : List Int} {n : Int} (hr : ∀ v w, w ∈ h.x.getD v [] → v < ch.length → w < n) : ∀ {i : Nat}, i ≤ ch.length → (∀ v, v < ch.length → ch.getD v 0 < n) → ∀ v, v < ch.length → (bPass h l ch i).1.getD v 0 < n
  | 0, _, hc => hc
  | i + 1, hi, hc => fun v hv => by
    have ih := Zgq (l := l) hr (i := i) (by omega) hc
    rw [Zez]
    unfold bStep
    split
    · exact ih v hv
    · dsimp only
      have hl := @Zdb h l ch i
      have e : ∀ y, ((bPass h l ch i).1.set i y).getD v 0 = if v = i then y else (bPass h l ch i).1.getD v 0 := fun y => by
        simp only [List.getD_eq_getElem?_getD, List.getElem?_set]
        by_cases e : i = v
        · subst e; simp [hl, hv]
        · rw [if_neg e, if_neg (fun h => e h.symm)]
      rw [e]
      split
      · exact btIn_ch (P := fun s => s.2.1 < n) (ih i (by omega)) fun s w hw _ _ => hr i w hw (by omega)
      · exact ih v hv
theorem btIn_ok {pl : Int} {l : Nat → Vl} {K : Nat} {D : Int} {row : List Int} {s : Vl × Int × Bool} (h : VOK K D s.1) (hl : ∀ w, w ∈ row → VOK K D (l w.toNat)) : VOK K D (btIn pl l row s).1 :=
  btIn_ch (P := fun s => VOK K D s.1) h fun s w hw _ _ => hl w hw
set_option maxRecDepth 4000 in
set_option maxHeartbeats 4000000 in
theorem better_fg {o p : List Int} {x : List (List Int)} {pl : Int} {st : Vl} {ls : List Bool} {ch : List Int} {l : Nat → Vl} {K : Nat} {D : Int} (H : ImOK ⟨o, p, x, pl, st, ls⟩ K) (hD : 0 ≤ D) (hcl : ch.length = o.length) (hc : ∀ v, v < o.length → ch.getD v 0 < o.length) (hvo : ∀ u, u < o.length → VOK K D (l u)) :
    FG Try.prog 50 [.agg (.cons (.roI o) (.cons (.roI p) (.cons (.roII x) (.cons (.int .i64 pl) (.cons (.bool st.e) (.cons (.bool st.n) (.cons (.roI st.m) (.cons (.roB ls) (.cons (.own 1) .nil))))))))), .own 0] [(0, some (.avs 3 o.length fun j => vlA (l j))), (1, some (.ints ch))] 2
      fun g => g = ⟨2, .bool (bPass ⟨o, p, x, pl, st, ls⟩ l ch o.length).2, [(0, some (.avs 3 o.length fun j => vlA (l j))), (1, some (.ints (bPass ⟨o, p, x, pl, st, ls⟩ l ch o.length).1))]⟩ := by
  have hn : o.length ≤ 20000 := H.n
  have hxl : x.length = o.length := H.xl
  have hlt := fun i hi => Zgq (h := ⟨o, p, x, pl, st, ls⟩) (l := l) (ch := ch) (n := o.length) (fun v w hw hv => by
    obtain ⟨j, hj, rfl⟩ := Zc9 hw
    exact ((H.row v (by show v < o.length; omega)).2 j hj).2) (i := i) hi (fun v hv => hc v (by omega))
  have hbl := fun i => @Zdb ⟨o, p, x, pl, st, ls⟩ l ch i
  have hbn := fun i => @Zez ⟨o, p, x, pl, st, ls⟩ l ch i
  refine Zd1 htb (fn := Try.f50) (by kernel_rfl) (by kernel_rfl) rfl (Nat.le_of_ble_eq_true rfl) fun hl => ?_
  simp only [lenP, mkL, lim] at hl
  repeat' first
    | with_reducible first | refine Zas ?_ | refine Zao ?_ | refine Zac ?_ | refine Zad ?_ | refine Zai ?_ | refine Zaq ?_ | refine Zah ?_ | refine Zak ?_ | refine Zar ?_ | refine Zat ?_ | refine Zap ?_ | refine Zam ?_ | refine Zaa ?_ | refine Zae ?_ | refine Zab ?_ | refine Zal ?_
    | ((with_reducible refine Zaj ?_ ?_); exact rfl)
    | ((with_reducible refine Zau ?_); refine Zan rfl ?_ ?_ <;> intro hb <;> (try simp only [zH] at hb))
    | ((with_reducible refine Za0 ?_); (first | refine Zaf htb hmz Za5 (fun _ => false) rfl rfl ?_ | refine Zag hmo htb hmz Za5 (fun _ => false) rfl rfl (by kernel_rfl) ?_); intro m' e' l' ob h; simp only [zE0, zE1, zE2, zE3, zE4, zE5, evp, evx, ev1, evLoad, evStore, evBin, isBoolK, forall_const, z38, tb, Nat.reduceAdd, Nat.reduceSub, Nat.reduceMul, Nat.reduceEqDiff, Nat.reduceLeDiff, Nat.reduceLT, Nat.reduceBEq, Nat.reduceBNe, ↓reduceIte, reduceIte, spVa, compareS, vlA] at h; obtain ⟨rfl, rfl, rfl, rfl⟩ := h; refine ⟨?_, ?_⟩)
    | ((with_reducible refine Ob.mk ?_); first | exact trivial | (intros; omega) | ((repeat' first | apply And.intro | (intro hg; have hg' := hg; try simp only [zH] at hg')) <;> first | (with_reducible exact True.intro) | assumption | omega | (simp only [zH]; omega)))
  refine Za1 (τ := Nat) (fun i => i ≤ o.length) (fun i => ⟨12, [(13, .int .i64 i), (12, .int .i64 o.length), (5, .bool (bPass ⟨o, p, x, pl, st, ls⟩ l ch i).2), (1, .own 0), (2, .own 2)], [(0, some (.avs 3 o.length fun j => vlA (l j))), (1, some (.ints (bPass ⟨o, p, x, pl, st, ls⟩ l ch i).1)), (2, some (.box (.agg (.cons (.roI o) (.cons (.roI p) (.cons (.roII x) (.cons (.int .i64 pl) (.cons (.bool st.e) (.cons (.bool st.n) (.cons (.roI st.m) (.cons (.roB ls) (.cons (.own 1) .nil))))))))))))], []⟩) (fun i => o.length - i) 0 [] ?_ (Nat.zero_le _) ?_
  · (refine ⟨rfl, ?_, ?_⟩ <;> simp only [zE0, zE1, zE2, zE3, zE4, zE5, evp, evx, ev1, evLoad, evStore, evBin, isBoolK, forall_const, z38, tb, Nat.reduceAdd, Nat.reduceSub, Nat.reduceMul, Nat.reduceEqDiff, Nat.reduceLeDiff, Nat.reduceLT, Nat.reduceBEq, Nat.reduceBNe, ↓reduceIte, reduceIte, spVa, compareS, vlA, zI])
    · exact ⟨by omega, rfl⟩
    · rfl
  intro i hi
  have hlt1 := hlt i (by omega)
  have hbl1 := hbl i
  have hbn1 := hbn i
  clear hlt hbl hbn
  generalize hsd : bPass ⟨o, p, x, pl, st, ls⟩ l ch i = s at *
  repeat' first
    | with_reducible first | refine Zas ?_ | refine Zao ?_ | refine Zac ?_ | refine Zad ?_ | refine Zai ?_ | refine Zaq ?_ | refine Zah ?_ | refine Zak ?_ | refine Zar ?_ | refine Zat ?_ | refine Zap ?_ | refine Zam ?_ | refine Zaa ?_ | refine Zae ?_ | refine Zab ?_ | refine Zal ?_
    | ((with_reducible refine Zaj ?_ ?_); exact rfl)
    | ((with_reducible refine Zau ?_); refine Zan rfl ?_ ?_ <;> intro hb <;> (try simp only [zH] at hb))
    | ((with_reducible refine Zav 6 ?_ ?_); (· exact rfl); (with_reducible refine Zav 7 ?_ ?_); (· exact rfl); (with_reducible refine Zav 16 ?_ ?_); (· exact rfl); (first | refine Zaf htb hmz Za5 (fun _ => false) rfl rfl ?_ | refine Zag hmo htb hmz Za5 (fun _ => false) rfl rfl (by kernel_rfl) ?_); intro m' e' l' ob h; simp only [zE0, zE1, zE2, zE3, zE4, zE5, evp, evx, ev1, evLoad, evStore, evBin, isBoolK, forall_const, z38, tb, Nat.reduceAdd, Nat.reduceSub, Nat.reduceMul, Nat.reduceEqDiff, Nat.reduceLeDiff, Nat.reduceLT, Nat.reduceBEq, Nat.reduceBNe, ↓reduceIte, reduceIte, spVa, compareS, vlA] at h; obtain ⟨rfl, rfl, rfl, rfl⟩ := h; refine ⟨?_, ?_⟩)
    | ((with_reducible refine Ob.mk ?_); first | exact trivial | (intros; omega) | ((repeat' first | apply And.intro | (intro hg; have hg' := hg; try simp only [zH] at hg')) <;> first | (with_reducible exact True.intro) | assumption | omega | (simp only [zH]; omega)))
  · have hst : bStep ⟨o, p, x, pl, st, ls⟩ l s i = s := if_pos hb
    rw [hst] at hbn1
    refine back (i + 1) [] ?_ (by omega) (by omega)
    (refine ⟨rfl, ?_, ?_⟩ <;> simp only [zE0, zE1, zE2, zE3, zE4, zE5, evp, evx, ev1, evLoad, evStore, evBin, isBoolK, forall_const, z38, tb, Nat.reduceAdd, Nat.reduceSub, Nat.reduceMul, Nat.reduceEqDiff, Nat.reduceLeDiff, Nat.reduceLT, Nat.reduceBEq, Nat.reduceBNe, ↓reduceIte, reduceIte, spVa, compareS, vlA, zI])
    all_goals rw [hbn1]
  · have hil : i < o.length := by omega
    have ho : o.getD i 0 = pl := hb
    have hst : bStep ⟨o, p, x, pl, st, ls⟩ l s i = (s.1.set i (btIn pl l (x.getD i []) (nowV ⟨o, p, x, pl, st, ls⟩ s.1 l i, s.1.getD i 0, s.2)).2.1, (btIn pl l (x.getD i []) (nowV ⟨o, p, x, pl, st, ls⟩ s.1 l i, s.1.getD i 0, s.2)).2.2) := if_neg (fun h => h ho)
    rw [hst] at hbn1
    clear hst hb
    have hci := hlt1 i (by omega)
    have hnw : 0 ≤ s.1.getD i 0 → nowV ⟨o, p, x, pl, st, ls⟩ s.1 l i = l (s.1.getD i 0).toNat := fun h => if_pos h
    have hnw2 : s.1.getD i 0 < 0 → nowV ⟨o, p, x, pl, st, ls⟩ s.1 l i = st := fun h => if_neg (by show ¬ 0 ≤ s.1.getD i 0; omega)
    have hwok : VOK K D (nowV ⟨o, p, x, pl, st, ls⟩ s.1 l i) := by
      by_cases h : 0 ≤ s.1.getD i 0
      · rw [hnw h]; exact hvo _ (by omega)
      · rw [hnw2 (by omega)]; exact Zc0 H.st hD
    generalize nowV ⟨o, p, x, pl, st, ls⟩ s.1 l i = now at *
    have hrow : (x.getD i []).length ≤ 64 ∧ ∀ j, j < (x.getD i []).length → 0 ≤ (x.getD i []).getD j 0 ∧ (x.getD i []).getD j 0 < (o.length : Int) := H.row i hil
    have hsl : s.1.length = ch.length := hbl1
    have hse : s.1.set i (s.1.getD i 0) = s.1 := by
      refine ext0 List.length_set fun j hj => ?_
      simp only [List.getD_eq_getElem?_getD, List.getElem?_set]
      by_cases e : i = j
      · subst e
        rw [List.length_set] at hj
        simp [hj]
      · rw [if_neg e]
    repeat' first
      | with_reducible first | refine Zas ?_ | refine Zao ?_ | refine Zac ?_ | refine Zad ?_ | refine Zai ?_ | refine Zaq ?_ | refine Zah ?_ | refine Zak ?_ | refine Zar ?_ | refine Zat ?_ | refine Zap ?_ | refine Zam ?_ | refine Zaa ?_ | refine Zae ?_ | refine Zab ?_ | refine Zal ?_
      | ((with_reducible refine Zaj ?_ ?_); exact rfl)
      | ((with_reducible refine Zau ?_); refine Zan rfl ?_ ?_ <;> intro hb <;> (try simp only [zH] at hb))
      | ((with_reducible refine Zav 8 ?_ ?_); (· exact rfl); (with_reducible refine Zav 9 ?_ ?_); (· exact rfl); (with_reducible refine Zav 16 ?_ ?_); (· exact rfl); (first | refine Zaf htb hmz Za5 (fun _ => false) rfl rfl ?_ | refine Zag hmo htb hmz Za5 (fun _ => false) rfl rfl (by kernel_rfl) ?_); intro m' e' l' ob h; simp only [zE0, zE1, zE2, zE3, zE4, zE5, evp, evx, ev1, evLoad, evStore, evBin, isBoolK, forall_const, z38, tb, Nat.reduceAdd, Nat.reduceSub, Nat.reduceMul, Nat.reduceEqDiff, Nat.reduceLeDiff, Nat.reduceLT, Nat.reduceBEq, Nat.reduceBNe, ↓reduceIte, reduceIte, spVa, compareS, vlA] at h; obtain ⟨rfl, rfl, rfl, rfl⟩ := h; refine ⟨?_, ?_⟩)
      | ((with_reducible refine Ob.mk ?_); first | exact trivial | (intros; omega) | ((repeat' first | apply And.intro | (intro hg; have hg' := hg; try simp only [zH] at hg')) <;> first | (with_reducible exact True.intro) | assumption | omega | (simp only [zH]; omega)))
    · have hnw := hnw hb
      repeat' first
        | with_reducible first | refine Zas ?_ | refine Zao ?_ | refine Zac ?_ | refine Zad ?_ | refine Zai ?_ | refine Zaq ?_ | refine Zah ?_ | refine Zak ?_ | refine Zar ?_ | refine Zat ?_ | refine Zap ?_ | refine Zam ?_ | refine Zaa ?_ | refine Zae ?_ | refine Zab ?_ | refine Zal ?_
        | ((with_reducible refine Zaj ?_ ?_); exact rfl)
        | ((with_reducible refine Zau ?_); refine Zan rfl ?_ ?_ <;> intro hb <;> (try simp only [zH] at hb))
        | ((with_reducible refine Zav 9 ?_ ?_); (· exact rfl); (first | refine Zaf htb hmz Za5 (fun _ => false) rfl rfl ?_ | refine Zag hmo htb hmz Za5 (fun _ => false) rfl rfl (by kernel_rfl) ?_); intro m' e' l' ob h; simp only [zE0, zE1, zE2, zE3, zE4, zE5, evp, evx, ev1, evLoad, evStore, evBin, isBoolK, forall_const, z38, tb, Nat.reduceAdd, Nat.reduceSub, Nat.reduceMul, Nat.reduceEqDiff, Nat.reduceLeDiff, Nat.reduceLT, Nat.reduceBEq, Nat.reduceBNe, ↓reduceIte, reduceIte, spVa, compareS, vlA] at h; obtain ⟨rfl, rfl, rfl, rfl⟩ := h; refine ⟨?_, ?_⟩)
        | ((with_reducible refine Ob.mk ?_); first | exact trivial | (intros; omega) | ((repeat' first | apply And.intro | (intro hg; have hg' := hg; try simp only [zH] at hg')) <;> first | assumption | omega | (simp only [zH]; omega)))
      refine Zgs ⟨50, [(7, .own 26), (6, .int .i64 i), (13, .int .i64 i), (12, .int .i64 o.length), (5, .bool s.2), (1, .own 0), (2, .own 2)], [(0, some (.avs 3 o.length fun j => vlA (l j))), (1, some (.ints s.1)), (2, some (.box (.agg (.cons (.roI o) (.cons (.roI p) (.cons (.roII x) (.cons (.int .i64 pl) (.cons (.bool st.e) (.cons (.bool st.n) (.cons (.roI st.m) (.cons (.roB ls) (.cons (.own 1) .nil)))))))))))), (26, some (.box (vlA now)))], []⟩ [] ?_ ?_
      · (refine ⟨rfl, ?_, ?_⟩ <;> simp only [zE0, zE1, zE2, zE3, zE4, zE5, evp, evx, ev1, evLoad, evStore, evBin, isBoolK, forall_const, z38, tb, Nat.reduceAdd, Nat.reduceSub, Nat.reduceMul, Nat.reduceEqDiff, Nat.reduceLeDiff, Nat.reduceLT, Nat.reduceBEq, Nat.reduceBNe, ↓reduceIte, reduceIte, spVa, compareS, vlA, zI])
        rw [hnw]
        exact ⟨rfl, rfl, rfl⟩
      clear hlt1
      repeat' first
        | with_reducible first | refine Zas ?_ | refine Zao ?_ | refine Zac ?_ | refine Zad ?_ | refine Zai ?_ | refine Zaq ?_ | refine Zah ?_ | refine Zak ?_ | refine Zar ?_ | refine Zat ?_ | refine Zap ?_ | refine Zam ?_ | refine Zaa ?_ | refine Zae ?_ | refine Zab ?_ | refine Zal ?_
        | ((with_reducible refine Zaj ?_ ?_); exact rfl)
        | ((with_reducible refine Zau ?_); refine Zan rfl ?_ ?_ <;> intro hb <;> (try simp only [zH] at hb))
        | ((with_reducible refine Zav 10 ?_ ?_); (· exact rfl); (first | refine Zaf htb hmz Za5 (fun _ => false) rfl rfl ?_ | refine Zag hmo htb hmz Za5 (fun _ => false) rfl rfl (by kernel_rfl) ?_); intro m' e' l' ob h; simp only [zE0, zE1, zE2, zE3, zE4, zE5, evp, evx, ev1, evLoad, evStore, evBin, isBoolK, forall_const, z38, tb, Nat.reduceAdd, Nat.reduceSub, Nat.reduceMul, Nat.reduceEqDiff, Nat.reduceLeDiff, Nat.reduceLT, Nat.reduceBEq, Nat.reduceBNe, ↓reduceIte, reduceIte, spVa, compareS, vlA] at h; obtain ⟨rfl, rfl, rfl, rfl⟩ := h; refine ⟨?_, ?_⟩)
        | ((with_reducible refine Ob.mk ?_); first | exact trivial | (intros; omega) | ((repeat' first | apply And.intro | (intro hg; have hg' := hg; try simp only [zH] at hg')) <;> first | assumption | omega | (simp only [zH]; omega)))
      generalize x.getD i [] = rw at *
      refine Za1 (τ := Nat) (fun j => j ≤ rw.length) (fun j => ⟨50, [(48, .int .i64 j), (47, .int .i64 rw.length), (46, .roI rw), (7, .own 26), (6, .int .i64 i), (13, .int .i64 i), (12, .int .i64 o.length), (5, .bool (btIn pl l (rw.take j) (now, s.1.getD i 0, s.2)).2.2), (1, .own 0), (2, .own 2)], [(0, some (.avs 3 o.length fun j => vlA (l j))), (1, some (.ints (s.1.set i (btIn pl l (rw.take j) (now, s.1.getD i 0, s.2)).2.1))), (2, some (.box (.agg (.cons (.roI o) (.cons (.roI p) (.cons (.roII x) (.cons (.int .i64 pl) (.cons (.bool st.e) (.cons (.bool st.n) (.cons (.roI st.m) (.cons (.roB ls) (.cons (.own 1) .nil)))))))))))), (26, some (.box (vlA (btIn pl l (rw.take j) (now, s.1.getD i 0, s.2)).1)))], []⟩) (fun j => rw.length - j) 0 [] ?_ (Nat.zero_le _) ?_
      · (refine ⟨rfl, ?_, ?_⟩ <;> simp only [zE0, zE1, zE2, zE3, zE4, zE5, evp, evx, ev1, evLoad, evStore, evBin, isBoolK, forall_const, z38, tb, Nat.reduceAdd, Nat.reduceSub, Nat.reduceMul, Nat.reduceEqDiff, Nat.reduceLeDiff, Nat.reduceLT, Nat.reduceBEq, Nat.reduceBNe, ↓reduceIte, reduceIte, spVa, compareS, vlA, zI])
        · rfl
        · exact ⟨hse.symm, rfl, rfl, rfl⟩
      intro j hj
      have hbj := @btIn_next pl l rw (now, s.1.getD i 0, s.2) j
      have hrj := hrow.2 j
      have hok : VOK K D (btIn pl l (rw.take j) (now, s.1.getD i 0, s.2)).1 := btIn_ok hwok fun w hw => by
        obtain ⟨t, ht, rfl⟩ := Zc9 (List.mem_of_mem_take hw)
        have := hrow.2 t ht
        exact hvo _ (by omega)
      repeat' first
        | with_reducible first | refine Zas ?_ | refine Zao ?_ | refine Zac ?_ | refine Zad ?_ | refine Zai ?_ | refine Zaq ?_ | refine Zah ?_ | refine Zak ?_ | refine Zar ?_ | refine Zat ?_ | refine Zap ?_ | refine Zam ?_ | refine Zaa ?_ | refine Zae ?_ | refine Zab ?_ | refine Zal ?_
        | ((with_reducible refine Zaj ?_ ?_); exact rfl)
        | ((with_reducible refine Zau ?_); refine Zan rfl ?_ ?_ <;> intro hb <;> (try simp only [zH] at hb))
        | ((with_reducible refine Zav 12 ?_ ?_); (· exact rfl); (with_reducible refine Zav 15 ?_ ?_); (· exact rfl); (with_reducible refine Zav 15 ?_ ?_); (· exact rfl); (first | refine Zaf htb hmz Za5 (fun _ => false) rfl rfl ?_ | refine Zag hmo htb hmz Za5 (fun _ => false) rfl rfl (by kernel_rfl) ?_); intro m' e' l' ob h; simp only [zE0, zE1, zE2, zE3, zE4, zE5, evp, evx, ev1, evLoad, evStore, evBin, isBoolK, forall_const, z38, tb, Nat.reduceAdd, Nat.reduceSub, Nat.reduceMul, Nat.reduceEqDiff, Nat.reduceLeDiff, Nat.reduceLT, Nat.reduceBEq, Nat.reduceBNe, ↓reduceIte, reduceIte, spVa, compareS, vlA] at h; obtain ⟨rfl, rfl, rfl, rfl⟩ := h; refine ⟨?_, ?_⟩)
        | ((with_reducible refine Ob.mk ?_); first | exact trivial | (intros; omega) | ((repeat' first | apply And.intro | (intro hg; have hg' := hg; try simp only [zH] at hg')) <;> first | (with_reducible exact True.intro) | assumption | omega | (simp only [zH]; omega)))
      · have hjl : j < rw.length := by omega
        obtain ⟨c1, c2⟩ := hrj hjl
        have hbj := hbj hjl
        have hvw := hvo (rw.getD j 0).toNat (by omega)
        generalize btIn pl l (rw.take j) (now, s.1.getD i 0, s.2) = r at *
        generalize rw.getD j 0 = w at *
        repeat' first
          | with_reducible first | refine Zas ?_ | refine Zao ?_ | refine Zac ?_ | refine Zad ?_ | refine Zai ?_ | refine Zaq ?_ | refine Zah ?_ | refine Zak ?_ | refine Zar ?_ | refine Zat ?_ | refine Zap ?_ | refine Zam ?_ | refine Zaa ?_ | refine Zae ?_ | refine Zab ?_ | refine Zal ?_
          | ((with_reducible refine Zaj ?_ ?_); exact rfl)
          | ((with_reducible refine Zau ?_); refine Zan rfl ?_ ?_ <;> intro hb <;> (try simp only [zH] at hb))
          | ((with_reducible refine Zav 13 ?_ ?_); (· exact rfl); (with_reducible refine Zav 14 ?_ ?_); (· exact rfl); (with_reducible refine Zav 15 ?_ ?_); (· exact rfl); (first | refine Zaf htb hmz Za5 (fun _ => false) rfl rfl ?_ | refine Zag hmo htb hmz Za5 (fun _ => false) rfl rfl (by kernel_rfl) ?_); intro m' e' l' ob h; simp only [zE0, zE1, zE2, zE3, zE4, zE5, evp, evx, ev1, evLoad, evStore, evBin, isBoolK, forall_const, z38, tb, Nat.reduceAdd, Nat.reduceSub, Nat.reduceMul, Nat.reduceEqDiff, Nat.reduceLeDiff, Nat.reduceLT, Nat.reduceBEq, Nat.reduceBNe, ↓reduceIte, reduceIte, spVa, compareS, vlA] at h; obtain ⟨rfl, rfl, rfl, rfl⟩ := h; refine ⟨?_, ?_⟩)
          | ((with_reducible refine Ob.mk ?_); first | exact trivial | (intros; omega) | ((repeat' first | apply And.intro | (intro hg; have hg' := hg; try simp only [zH] at hg')) <;> first | (with_reducible exact True.intro) | assumption | omega | (simp only [zH]; omega)))
        · refine Ob.mk ⟨⟨⟨by omega, by omega⟩, by omega⟩, hvw.1, fun h1 h2 => ?_⟩
          rw [(hvw.2 h1).1, (hok.2 h2).1]
          exact Nat.le_refl _
        · rw [if_pos hb] at hbj
          repeat' first
            | with_reducible first | refine Zas ?_ | refine Zao ?_ | refine Zac ?_ | refine Zad ?_ | refine Zai ?_ | refine Zaq ?_ | refine Zah ?_ | refine Zak ?_ | refine Zar ?_ | refine Zat ?_ | refine Zap ?_ | refine Zam ?_ | refine Zaa ?_ | refine Zae ?_ | refine Zab ?_ | refine Zal ?_
            | ((with_reducible refine Zaj ?_ ?_); exact rfl)
            | ((with_reducible refine Zau ?_); refine Zan rfl ?_ ?_ <;> intro hb <;> (try simp only [zH] at hb))
            | ((with_reducible refine Za0 ?_); (first | refine Zaf htb hmz Za5 (fun _ => false) rfl rfl ?_ | refine Zag hmo htb hmz Za5 (fun _ => false) rfl rfl (by kernel_rfl) ?_); intro m' e' l' ob h; simp only [zE0, zE1, zE2, zE3, zE4, zE5, evp, evx, ev1, evLoad, evStore, evBin, isBoolK, forall_const, z38, tb, Nat.reduceAdd, Nat.reduceSub, Nat.reduceMul, Nat.reduceEqDiff, Nat.reduceLeDiff, Nat.reduceLT, Nat.reduceBEq, Nat.reduceBNe, ↓reduceIte, reduceIte, spVa, compareS, vlA] at h; obtain ⟨rfl, rfl, rfl, rfl⟩ := h; refine ⟨?_, ?_⟩)
            | ((with_reducible refine Ob.mk ?_); first | exact trivial | (intros; omega) | ((repeat' first | apply And.intro | (intro hg; have hg' := hg; try simp only [zH] at hg')) <;> first | (with_reducible exact True.intro) | assumption | omega | (simp only [zH]; omega)))
          refine back (j + 1) [] ?_ (by omega) (by omega)
          (refine ⟨rfl, ?_, ?_⟩ <;> simp only [zE0, zE1, zE2, zE3, zE4, zE5, evp, evx, ev1, evLoad, evStore, evBin, isBoolK, forall_const, z38, tb, Nat.reduceAdd, Nat.reduceSub, Nat.reduceMul, Nat.reduceEqDiff, Nat.reduceLeDiff, Nat.reduceLT, Nat.reduceBEq, Nat.reduceBNe, ↓reduceIte, reduceIte, spVa, compareS, vlA, zI])
          all_goals rw [hbj]
          exact ⟨by rw [List.set_set], rfl, rfl, rfl⟩
        · rw [if_neg (Int.not_lt.2 hb)] at hbj
          repeat' first
            | with_reducible first | refine Zas ?_ | refine Zao ?_ | refine Zac ?_ | refine Zad ?_ | refine Zai ?_ | refine Zaq ?_ | refine Zah ?_ | refine Zak ?_ | refine Zar ?_ | refine Zat ?_ | refine Zap ?_ | refine Zam ?_ | refine Zaa ?_ | refine Zae ?_ | refine Zab ?_ | refine Zal ?_
            | ((with_reducible refine Zaj ?_ ?_); exact rfl)
            | ((with_reducible refine Zau ?_); refine Zan rfl ?_ ?_ <;> intro hb <;> (try simp only [zH] at hb))
            | ((with_reducible refine Za0 ?_); (first | refine Zaf htb hmz Za5 (fun _ => false) rfl rfl ?_ | refine Zag hmo htb hmz Za5 (fun _ => false) rfl rfl (by kernel_rfl) ?_); intro m' e' l' ob h; simp only [zE0, zE1, zE2, zE3, zE4, zE5, evp, evx, ev1, evLoad, evStore, evBin, isBoolK, forall_const, z38, tb, Nat.reduceAdd, Nat.reduceSub, Nat.reduceMul, Nat.reduceEqDiff, Nat.reduceLeDiff, Nat.reduceLT, Nat.reduceBEq, Nat.reduceBNe, ↓reduceIte, reduceIte, spVa, compareS, vlA] at h; obtain ⟨rfl, rfl, rfl, rfl⟩ := h; refine ⟨?_, ?_⟩)
            | ((with_reducible refine Ob.mk ?_); first | exact trivial | (intros; omega) | ((repeat' first | apply And.intro | (intro hg; have hg' := hg; try simp only [zH] at hg')) <;> first | (with_reducible exact True.intro) | assumption | omega | (simp only [zH]; omega)))
          refine back (j + 1) [] ?_ (by omega) (by omega)
          (refine ⟨rfl, ?_, ?_⟩ <;> simp only [zE0, zE1, zE2, zE3, zE4, zE5, evp, evx, ev1, evLoad, evStore, evBin, isBoolK, forall_const, z38, tb, Nat.reduceAdd, Nat.reduceSub, Nat.reduceMul, Nat.reduceEqDiff, Nat.reduceLeDiff, Nat.reduceLT, Nat.reduceBEq, Nat.reduceBNe, ↓reduceIte, reduceIte, spVa, compareS, vlA, zI])
          all_goals rw [hbj]
          exact ⟨rfl, rfl, rfl, rfl⟩
      have hje : j = rw.length := by omega
      subst hje
      rw [List.take_length]
      repeat' first
        | with_reducible first | refine Zas ?_ | refine Zao ?_ | refine Zac ?_ | refine Zad ?_ | refine Zai ?_ | refine Zaq ?_ | refine Zah ?_ | refine Zak ?_ | refine Zar ?_ | refine Zat ?_ | refine Zap ?_ | refine Zam ?_ | refine Zaa ?_ | refine Zae ?_ | refine Zab ?_ | refine Zal ?_
        | ((with_reducible refine Zaj ?_ ?_); exact rfl)
        | ((with_reducible refine Zau ?_); refine Zan rfl ?_ ?_ <;> intro hb <;> (try simp only [zH] at hb))
        | ((with_reducible refine Za0 ?_); (first | refine Zaf htb hmz Za5 (fun _ => false) rfl rfl ?_ | refine Zag hmo htb hmz Za5 (fun _ => false) rfl rfl (by kernel_rfl) ?_); intro m' e' l' ob h; simp only [zE0, zE1, zE2, zE3, zE4, zE5, evp, evx, ev1, evLoad, evStore, evBin, isBoolK, forall_const, z38, tb, Nat.reduceAdd, Nat.reduceSub, Nat.reduceMul, Nat.reduceEqDiff, Nat.reduceLeDiff, Nat.reduceLT, Nat.reduceBEq, Nat.reduceBNe, ↓reduceIte, reduceIte, spVa, compareS, vlA] at h; obtain ⟨rfl, rfl, rfl, rfl⟩ := h; refine ⟨?_, ?_⟩)
        | ((with_reducible refine Ob.mk ?_); first | exact trivial | (intros; omega) | ((repeat' first | apply And.intro | (intro hg; have hg' := hg; try simp only [zH] at hg')) <;> first | (with_reducible exact True.intro) | assumption | omega | (simp only [zH]; omega)))
      refine back (i + 1) [] ?_ (by omega) (by omega)
      (refine ⟨rfl, ?_, ?_⟩ <;> simp only [zE0, zE1, zE2, zE3, zE4, zE5, evp, evx, ev1, evLoad, evStore, evBin, isBoolK, forall_const, z38, tb, Nat.reduceAdd, Nat.reduceSub, Nat.reduceMul, Nat.reduceEqDiff, Nat.reduceLeDiff, Nat.reduceLT, Nat.reduceBEq, Nat.reduceBNe, ↓reduceIte, reduceIte, spVa, compareS, vlA, zI])
      all_goals rw [hbn1]
    · have hnw2 := hnw2 (by omega)
      refine Zgs ⟨50, [(7, .own 26), (6, .int .i64 i), (13, .int .i64 i), (12, .int .i64 o.length), (5, .bool s.2), (1, .own 0), (2, .own 2)], [(0, some (.avs 3 o.length fun j => vlA (l j))), (1, some (.ints s.1)), (2, some (.box (.agg (.cons (.roI o) (.cons (.roI p) (.cons (.roII x) (.cons (.int .i64 pl) (.cons (.bool st.e) (.cons (.bool st.n) (.cons (.roI st.m) (.cons (.roB ls) (.cons (.own 1) .nil)))))))))))), (26, some (.box (vlA now)))], []⟩ [] ?_ ?_
      · (refine ⟨rfl, ?_, ?_⟩ <;> simp only [zE0, zE1, zE2, zE3, zE4, zE5, evp, evx, ev1, evLoad, evStore, evBin, isBoolK, forall_const, z38, tb, Nat.reduceAdd, Nat.reduceSub, Nat.reduceMul, Nat.reduceEqDiff, Nat.reduceLeDiff, Nat.reduceLT, Nat.reduceBEq, Nat.reduceBNe, ↓reduceIte, reduceIte, spVa, compareS, vlA, zI])
        rw [hnw2]
        exact ⟨rfl, rfl, rfl⟩
      clear hlt1
      repeat' first
        | with_reducible first | refine Zas ?_ | refine Zao ?_ | refine Zac ?_ | refine Zad ?_ | refine Zai ?_ | refine Zaq ?_ | refine Zah ?_ | refine Zak ?_ | refine Zar ?_ | refine Zat ?_ | refine Zap ?_ | refine Zam ?_ | refine Zaa ?_ | refine Zae ?_ | refine Zab ?_ | refine Zal ?_
        | ((with_reducible refine Zaj ?_ ?_); exact rfl)
        | ((with_reducible refine Zau ?_); refine Zan rfl ?_ ?_ <;> intro hb <;> (try simp only [zH] at hb))
        | ((with_reducible refine Zav 10 ?_ ?_); (· exact rfl); (first | refine Zaf htb hmz Za5 (fun _ => false) rfl rfl ?_ | refine Zag hmo htb hmz Za5 (fun _ => false) rfl rfl (by kernel_rfl) ?_); intro m' e' l' ob h; simp only [zE0, zE1, zE2, zE3, zE4, zE5, evp, evx, ev1, evLoad, evStore, evBin, isBoolK, forall_const, z38, tb, Nat.reduceAdd, Nat.reduceSub, Nat.reduceMul, Nat.reduceEqDiff, Nat.reduceLeDiff, Nat.reduceLT, Nat.reduceBEq, Nat.reduceBNe, ↓reduceIte, reduceIte, spVa, compareS, vlA] at h; obtain ⟨rfl, rfl, rfl, rfl⟩ := h; refine ⟨?_, ?_⟩)
        | ((with_reducible refine Ob.mk ?_); first | exact trivial | (intros; omega) | ((repeat' first | apply And.intro | (intro hg; have hg' := hg; try simp only [zH] at hg')) <;> first | assumption | omega | (simp only [zH]; omega)))
      generalize x.getD i [] = rw at *
      refine Za1 (τ := Nat) (fun j => j ≤ rw.length) (fun j => ⟨50, [(48, .int .i64 j), (47, .int .i64 rw.length), (46, .roI rw), (7, .own 26), (6, .int .i64 i), (13, .int .i64 i), (12, .int .i64 o.length), (5, .bool (btIn pl l (rw.take j) (now, s.1.getD i 0, s.2)).2.2), (1, .own 0), (2, .own 2)], [(0, some (.avs 3 o.length fun j => vlA (l j))), (1, some (.ints (s.1.set i (btIn pl l (rw.take j) (now, s.1.getD i 0, s.2)).2.1))), (2, some (.box (.agg (.cons (.roI o) (.cons (.roI p) (.cons (.roII x) (.cons (.int .i64 pl) (.cons (.bool st.e) (.cons (.bool st.n) (.cons (.roI st.m) (.cons (.roB ls) (.cons (.own 1) .nil)))))))))))), (26, some (.box (vlA (btIn pl l (rw.take j) (now, s.1.getD i 0, s.2)).1)))], []⟩) (fun j => rw.length - j) 0 [] ?_ (Nat.zero_le _) ?_
      · (refine ⟨rfl, ?_, ?_⟩ <;> simp only [zE0, zE1, zE2, zE3, zE4, zE5, evp, evx, ev1, evLoad, evStore, evBin, isBoolK, forall_const, z38, tb, Nat.reduceAdd, Nat.reduceSub, Nat.reduceMul, Nat.reduceEqDiff, Nat.reduceLeDiff, Nat.reduceLT, Nat.reduceBEq, Nat.reduceBNe, ↓reduceIte, reduceIte, spVa, compareS, vlA, zI])
        · rfl
        · exact ⟨hse.symm, rfl, rfl, rfl⟩
      intro j hj
      have hbj := @btIn_next pl l rw (now, s.1.getD i 0, s.2) j
      have hrj := hrow.2 j
      have hok : VOK K D (btIn pl l (rw.take j) (now, s.1.getD i 0, s.2)).1 := btIn_ok hwok fun w hw => by
        obtain ⟨t, ht, rfl⟩ := Zc9 (List.mem_of_mem_take hw)
        have := hrow.2 t ht
        exact hvo _ (by omega)
      repeat' first
        | with_reducible first | refine Zas ?_ | refine Zao ?_ | refine Zac ?_ | refine Zad ?_ | refine Zai ?_ | refine Zaq ?_ | refine Zah ?_ | refine Zak ?_ | refine Zar ?_ | refine Zat ?_ | refine Zap ?_ | refine Zam ?_ | refine Zaa ?_ | refine Zae ?_ | refine Zab ?_ | refine Zal ?_
        | ((with_reducible refine Zaj ?_ ?_); exact rfl)
        | ((with_reducible refine Zau ?_); refine Zan rfl ?_ ?_ <;> intro hb <;> (try simp only [zH] at hb))
        | ((with_reducible refine Zav 12 ?_ ?_); (· exact rfl); (with_reducible refine Zav 15 ?_ ?_); (· exact rfl); (with_reducible refine Zav 15 ?_ ?_); (· exact rfl); (first | refine Zaf htb hmz Za5 (fun _ => false) rfl rfl ?_ | refine Zag hmo htb hmz Za5 (fun _ => false) rfl rfl (by kernel_rfl) ?_); intro m' e' l' ob h; simp only [zE0, zE1, zE2, zE3, zE4, zE5, evp, evx, ev1, evLoad, evStore, evBin, isBoolK, forall_const, z38, tb, Nat.reduceAdd, Nat.reduceSub, Nat.reduceMul, Nat.reduceEqDiff, Nat.reduceLeDiff, Nat.reduceLT, Nat.reduceBEq, Nat.reduceBNe, ↓reduceIte, reduceIte, spVa, compareS, vlA] at h; obtain ⟨rfl, rfl, rfl, rfl⟩ := h; refine ⟨?_, ?_⟩)
        | ((with_reducible refine Ob.mk ?_); first | exact trivial | (intros; omega) | ((repeat' first | apply And.intro | (intro hg; have hg' := hg; try simp only [zH] at hg')) <;> first | (with_reducible exact True.intro) | assumption | omega | (simp only [zH]; omega)))
      · have hjl : j < rw.length := by omega
        obtain ⟨c1, c2⟩ := hrj hjl
        have hbj := hbj hjl
        have hvw := hvo (rw.getD j 0).toNat (by omega)
        generalize btIn pl l (rw.take j) (now, s.1.getD i 0, s.2) = r at *
        generalize rw.getD j 0 = w at *
        repeat' first
          | with_reducible first | refine Zas ?_ | refine Zao ?_ | refine Zac ?_ | refine Zad ?_ | refine Zai ?_ | refine Zaq ?_ | refine Zah ?_ | refine Zak ?_ | refine Zar ?_ | refine Zat ?_ | refine Zap ?_ | refine Zam ?_ | refine Zaa ?_ | refine Zae ?_ | refine Zab ?_ | refine Zal ?_
          | ((with_reducible refine Zaj ?_ ?_); exact rfl)
          | ((with_reducible refine Zau ?_); refine Zan rfl ?_ ?_ <;> intro hb <;> (try simp only [zH] at hb))
          | ((with_reducible refine Zav 13 ?_ ?_); (· exact rfl); (with_reducible refine Zav 14 ?_ ?_); (· exact rfl); (with_reducible refine Zav 15 ?_ ?_); (· exact rfl); (first | refine Zaf htb hmz Za5 (fun _ => false) rfl rfl ?_ | refine Zag hmo htb hmz Za5 (fun _ => false) rfl rfl (by kernel_rfl) ?_); intro m' e' l' ob h; simp only [zE0, zE1, zE2, zE3, zE4, zE5, evp, evx, ev1, evLoad, evStore, evBin, isBoolK, forall_const, z38, tb, Nat.reduceAdd, Nat.reduceSub, Nat.reduceMul, Nat.reduceEqDiff, Nat.reduceLeDiff, Nat.reduceLT, Nat.reduceBEq, Nat.reduceBNe, ↓reduceIte, reduceIte, spVa, compareS, vlA] at h; obtain ⟨rfl, rfl, rfl, rfl⟩ := h; refine ⟨?_, ?_⟩)
          | ((with_reducible refine Ob.mk ?_); first | exact trivial | (intros; omega) | ((repeat' first | apply And.intro | (intro hg; have hg' := hg; try simp only [zH] at hg')) <;> first | (with_reducible exact True.intro) | assumption | omega | (simp only [zH]; omega)))
        · refine Ob.mk ⟨⟨⟨by omega, by omega⟩, by omega⟩, hvw.1, fun h1 h2 => ?_⟩
          rw [(hvw.2 h1).1, (hok.2 h2).1]
          exact Nat.le_refl _
        · rw [if_pos hb] at hbj
          repeat' first
            | with_reducible first | refine Zas ?_ | refine Zao ?_ | refine Zac ?_ | refine Zad ?_ | refine Zai ?_ | refine Zaq ?_ | refine Zah ?_ | refine Zak ?_ | refine Zar ?_ | refine Zat ?_ | refine Zap ?_ | refine Zam ?_ | refine Zaa ?_ | refine Zae ?_ | refine Zab ?_ | refine Zal ?_
            | ((with_reducible refine Zaj ?_ ?_); exact rfl)
            | ((with_reducible refine Zau ?_); refine Zan rfl ?_ ?_ <;> intro hb <;> (try simp only [zH] at hb))
            | ((with_reducible refine Za0 ?_); (first | refine Zaf htb hmz Za5 (fun _ => false) rfl rfl ?_ | refine Zag hmo htb hmz Za5 (fun _ => false) rfl rfl (by kernel_rfl) ?_); intro m' e' l' ob h; simp only [zE0, zE1, zE2, zE3, zE4, zE5, evp, evx, ev1, evLoad, evStore, evBin, isBoolK, forall_const, z38, tb, Nat.reduceAdd, Nat.reduceSub, Nat.reduceMul, Nat.reduceEqDiff, Nat.reduceLeDiff, Nat.reduceLT, Nat.reduceBEq, Nat.reduceBNe, ↓reduceIte, reduceIte, spVa, compareS, vlA] at h; obtain ⟨rfl, rfl, rfl, rfl⟩ := h; refine ⟨?_, ?_⟩)
            | ((with_reducible refine Ob.mk ?_); first | exact trivial | (intros; omega) | ((repeat' first | apply And.intro | (intro hg; have hg' := hg; try simp only [zH] at hg')) <;> first | (with_reducible exact True.intro) | assumption | omega | (simp only [zH]; omega)))
          refine back (j + 1) [] ?_ (by omega) (by omega)
          (refine ⟨rfl, ?_, ?_⟩ <;> simp only [zE0, zE1, zE2, zE3, zE4, zE5, evp, evx, ev1, evLoad, evStore, evBin, isBoolK, forall_const, z38, tb, Nat.reduceAdd, Nat.reduceSub, Nat.reduceMul, Nat.reduceEqDiff, Nat.reduceLeDiff, Nat.reduceLT, Nat.reduceBEq, Nat.reduceBNe, ↓reduceIte, reduceIte, spVa, compareS, vlA, zI])
          all_goals rw [hbj]
          exact ⟨by rw [List.set_set], rfl, rfl, rfl⟩
        · rw [if_neg (Int.not_lt.2 hb)] at hbj
          repeat' first
            | with_reducible first | refine Zas ?_ | refine Zao ?_ | refine Zac ?_ | refine Zad ?_ | refine Zai ?_ | refine Zaq ?_ | refine Zah ?_ | refine Zak ?_ | refine Zar ?_ | refine Zat ?_ | refine Zap ?_ | refine Zam ?_ | refine Zaa ?_ | refine Zae ?_ | refine Zab ?_ | refine Zal ?_
            | ((with_reducible refine Zaj ?_ ?_); exact rfl)
            | ((with_reducible refine Zau ?_); refine Zan rfl ?_ ?_ <;> intro hb <;> (try simp only [zH] at hb))
            | ((with_reducible refine Za0 ?_); (first | refine Zaf htb hmz Za5 (fun _ => false) rfl rfl ?_ | refine Zag hmo htb hmz Za5 (fun _ => false) rfl rfl (by kernel_rfl) ?_); intro m' e' l' ob h; simp only [zE0, zE1, zE2, zE3, zE4, zE5, evp, evx, ev1, evLoad, evStore, evBin, isBoolK, forall_const, z38, tb, Nat.reduceAdd, Nat.reduceSub, Nat.reduceMul, Nat.reduceEqDiff, Nat.reduceLeDiff, Nat.reduceLT, Nat.reduceBEq, Nat.reduceBNe, ↓reduceIte, reduceIte, spVa, compareS, vlA] at h; obtain ⟨rfl, rfl, rfl, rfl⟩ := h; refine ⟨?_, ?_⟩)
            | ((with_reducible refine Ob.mk ?_); first | exact trivial | (intros; omega) | ((repeat' first | apply And.intro | (intro hg; have hg' := hg; try simp only [zH] at hg')) <;> first | (with_reducible exact True.intro) | assumption | omega | (simp only [zH]; omega)))
          refine back (j + 1) [] ?_ (by omega) (by omega)
          (refine ⟨rfl, ?_, ?_⟩ <;> simp only [zE0, zE1, zE2, zE3, zE4, zE5, evp, evx, ev1, evLoad, evStore, evBin, isBoolK, forall_const, z38, tb, Nat.reduceAdd, Nat.reduceSub, Nat.reduceMul, Nat.reduceEqDiff, Nat.reduceLeDiff, Nat.reduceLT, Nat.reduceBEq, Nat.reduceBNe, ↓reduceIte, reduceIte, spVa, compareS, vlA, zI])
          all_goals rw [hbj]
          exact ⟨rfl, rfl, rfl, rfl⟩
      have hje : j = rw.length := by omega
      subst hje
      rw [List.take_length]
      repeat' first
        | with_reducible first | refine Zas ?_ | refine Zao ?_ | refine Zac ?_ | refine Zad ?_ | refine Zai ?_ | refine Zaq ?_ | refine Zah ?_ | refine Zak ?_ | refine Zar ?_ | refine Zat ?_ | refine Zap ?_ | refine Zam ?_ | refine Zaa ?_ | refine Zae ?_ | refine Zab ?_ | refine Zal ?_
        | ((with_reducible refine Zaj ?_ ?_); exact rfl)
        | ((with_reducible refine Zau ?_); refine Zan rfl ?_ ?_ <;> intro hb <;> (try simp only [zH] at hb))
        | ((with_reducible refine Za0 ?_); (first | refine Zaf htb hmz Za5 (fun _ => false) rfl rfl ?_ | refine Zag hmo htb hmz Za5 (fun _ => false) rfl rfl (by kernel_rfl) ?_); intro m' e' l' ob h; simp only [zE0, zE1, zE2, zE3, zE4, zE5, evp, evx, ev1, evLoad, evStore, evBin, isBoolK, forall_const, z38, tb, Nat.reduceAdd, Nat.reduceSub, Nat.reduceMul, Nat.reduceEqDiff, Nat.reduceLeDiff, Nat.reduceLT, Nat.reduceBEq, Nat.reduceBNe, ↓reduceIte, reduceIte, spVa, compareS, vlA] at h; obtain ⟨rfl, rfl, rfl, rfl⟩ := h; refine ⟨?_, ?_⟩)
        | ((with_reducible refine Ob.mk ?_); first | exact trivial | (intros; omega) | ((repeat' first | apply And.intro | (intro hg; have hg' := hg; try simp only [zH] at hg')) <;> first | (with_reducible exact True.intro) | assumption | omega | (simp only [zH]; omega)))
      refine back (i + 1) [] ?_ (by omega) (by omega)
      (refine ⟨rfl, ?_, ?_⟩ <;> simp only [zE0, zE1, zE2, zE3, zE4, zE5, evp, evx, ev1, evLoad, evStore, evBin, isBoolK, forall_const, z38, tb, Nat.reduceAdd, Nat.reduceSub, Nat.reduceMul, Nat.reduceEqDiff, Nat.reduceLeDiff, Nat.reduceLT, Nat.reduceBEq, Nat.reduceBNe, ↓reduceIte, reduceIte, spVa, compareS, vlA, zI])
      all_goals rw [hbn1]
  have hie : i = o.length := by omega
  subst hie
  rw [hsd]
  repeat' first
    | with_reducible first | refine Zas ?_ | refine Zao ?_ | refine Zac ?_ | refine Zad ?_ | refine Zai ?_ | refine Zaq ?_ | refine Zah ?_ | refine Zak ?_ | refine Zar ?_ | refine Zat ?_ | refine Zap ?_ | refine Zam ?_ | refine Zaa ?_ | refine Zae ?_ | refine Zab ?_ | refine Zal ?_
    | ((with_reducible refine Zaj ?_ ?_); exact rfl)
    | ((with_reducible refine Zau ?_); refine Zan rfl ?_ ?_ <;> intro hb <;> (try simp only [zH] at hb))
    | ((with_reducible refine Za0 ?_); (first | refine Zaf htb hmz Za5 (fun _ => false) rfl rfl ?_ | refine Zag hmo htb hmz Za5 (fun _ => false) rfl rfl (by kernel_rfl) ?_); intro m' e' l' ob h; simp only [zE0, zE1, zE2, zE3, zE4, zE5, evp, evx, ev1, evLoad, evStore, evBin, isBoolK, forall_const, z38, tb, Nat.reduceAdd, Nat.reduceSub, Nat.reduceMul, Nat.reduceEqDiff, Nat.reduceLeDiff, Nat.reduceLT, Nat.reduceBEq, Nat.reduceBNe, ↓reduceIte, reduceIte, spVa, compareS, vlA] at h; obtain ⟨rfl, rfl, rfl, rfl⟩ := h; refine ⟨?_, ?_⟩)
    | ((with_reducible refine Ob.mk ?_); first | exact trivial | (intros; omega) | ((repeat' first | apply And.intro | (intro hg; have hg' := hg; try simp only [zH] at hg')) <;> first | (with_reducible exact True.intro) | assumption | omega | (simp only [zH]; omega)))
  refine Zay rfl rfl (Zcw (⟨2, .bool s.2, [(0, some (.avs 3 o.length fun j => vlA (l j))), (1, some (.ints s.1))]⟩) ([]) rfl rfl (Zbp rfl) ?_)
  simp only [grR, zE0, zE1, zE2, zE3, zE4, zE5, evp, evx, ev1, evLoad, evStore, evBin, isBoolK, forall_const, z38, tb, Nat.reduceAdd, Nat.reduceSub, Nat.reduceMul, Nat.reduceEqDiff, Nat.reduceLeDiff, Nat.reduceLT, Nat.reduceBEq, Nat.reduceBNe, ↓reduceIte, reduceIte, spVa, compareS, vlA]
end Go.Proofs.Ytbcghiagomkadaa.Cal
namespace Go.Proofs.Ytbcghiagomkadaa.Cal
open Go
theorem Zel {k : Int} : ∀ {es : List (Int × Int × Nat)} {i : Nat}, fnd k es (i + 1) = (fnd k es i).map fun p => (p.1 + 1, p.2)
  | [], _ => rfl
  | e :: t, i => by
    unfold fnd
    split
    · rfl
    · exact Zel
theorem Zdr {k : Int} {e : Int × Int × Nat} {t : List (Int × Int × Nat)} : mget k (e :: t) = if k = e.1 then e.2.1 else mget k t := by
  unfold mget
  rw [fnd]
  by_cases h : k = e.1
  · rw [if_pos h, if_pos h]
  · rw [if_neg h, if_neg h, Zel]
    cases fnd k t 0 <;> rfl
theorem mput_cons {k v : Int} {c : Nat} {e : Int × Int × Nat} {t : List (Int × Int × Nat)} : mput k v c (e :: t) = if k = e.1 then (k, v, e.2.2) :: t else e :: mput k v c t := by
  unfold mput
  rw [fnd]
  by_cases h : k = e.1
  · rw [if_pos h, if_pos h]; rfl
  · rw [if_neg h, if_neg h, Zel]
    cases fnd k t 0 <;> rfl
theorem mget_mput {k k' v : Int} {c : Nat} : ∀ {es : List (Int × Int × Nat)}, mget k (mput k' v c es) = if k = k' then v else mget k es
  | [] => by
    have : mput k' v c [] = [(k', v, c)] := rfl
    rw [this, Zdr]
  | e :: t => by
    rw [mput_cons]
    by_cases h : k' = e.1
    · rw [if_pos h, Zdr, Zdr]
      dsimp only
      rw [← h]
      split <;> rfl
    · rw [if_neg h, Zdr, Zdr, mget_mput (es := t)]
      by_cases h2 : k = e.1
      · rw [if_pos h2, if_pos h2, if_neg (fun e2 : k = k' => h (by rw [← e2]; exact h2))]
      · rw [if_neg h2, if_neg h2]
theorem Zdq {k : Int} {e : Int × Int × Nat} {t : List (Int × Int × Nat)} : mhas k (e :: t) = if k = e.1 then true else mhas k t := by
  unfold mhas
  rw [fnd]
  by_cases h : k = e.1
  · rw [if_pos h, if_pos h]
  · rw [if_neg h, if_neg h, Zel]
    cases fnd k t 0 <;> rfl
theorem mhas_mput {k k' v : Int} {c : Nat} : ∀ {es : List (Int × Int × Nat)}, mhas k (mput k' v c es) = if k = k' then true else mhas k es
  | [] => by
    have : mput k' v c [] = [(k', v, c)] := rfl
    rw [this, Zdq]
  | e :: t => by
    rw [mput_cons]
    by_cases h : k' = e.1
    · rw [if_pos h, Zdq, Zdq]
      dsimp only
      rw [← h]
      split <;> rfl
    · rw [if_neg h, Zdq, Zdq, mhas_mput (es := t)]
      by_cases h2 : k = e.1
      · rw [if_pos h2, if_pos h2]
        split <;> rfl
      · rw [if_neg h2, if_neg h2]
end Go.Proofs.Ytbcghiagomkadaa.Cal
