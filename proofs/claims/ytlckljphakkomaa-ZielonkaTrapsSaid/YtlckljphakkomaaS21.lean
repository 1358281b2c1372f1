/- Own texts of the proof, merged, in order. -/
import Derived.Test.YtlckljphakkomaaS20
set_option linter.unusedVariables false
set_option linter.unusedSimpArgs false
namespace Go.Proofs.Ytlckljphakkomaa.Cal
open Go Pl
theorem snoc_rec {α : Type} {P : List α → Prop} (h0 : P []) (h1 : ∀ L e, P L → P (L ++ [e])) (L : List α) : P L := by
  have : ∀ L : List α, P L.reverse := fun L => by
    induction L with
    | nil => exact h0
    | cons e L ih => rw [List.reverse_cons]; exact h1 _ _ ih
  have h := this L.reverse
  rwa [List.reverse_reverse] at h
theorem mpF_has {L : List (Nat × Nat)} : ∀ v : Nat, mhas v (mpF L).1 = decide (v ∈ L.map Prod.fst) := by
  induction L using snoc_rec with
  | h0 => intro v; simp [mpF_nil]; rfl
  | h1 L e ih =>
    obtain ⟨u, w⟩ := e
    intro v
    rw [mpF_snoc, mhas_mput]
    by_cases h : v = u
    · subst h; simp
    · rw [if_neg (by omega), ih v]
      simp [h]
theorem mpF_get {L : List (Nat × Nat)} : (L.map Prod.fst).Nodup → ∀ (j v w : Nat), L[j]? = some (v, w) → mget v (mpF L).1 = w := by
  induction L using snoc_rec with
  | h0 => intro _ j v w h; cases h
  | h1 L e ih =>
    obtain ⟨u, z⟩ := e
    intro hn j v w h
    rw [List.map_append, List.nodup_append] at hn
    rw [mpF_snoc, mget_mput]
    rcases Nat.lt_or_ge j L.length with hj | hj
    · rw [List.getElem?_append_left hj] at h
      have hv : v ∈ L.map Prod.fst := List.mem_map.2 ⟨(v, w), List.mem_of_getElem? h, rfl⟩
      have hne : v ≠ u := fun e => hn.2.2 v hv u (by simp) e
      rw [if_neg (by omega)]
      exact ih hn.1 j v w h
    · rw [List.getElem?_append_right hj] at h
      have hj0 : j - L.length = 0 := by
        have := (List.getElem?_eq_some_iff.1 h).1
        simp at this; omega
      rw [hj0] at h
      simp only [List.getElem?_cons_zero, Option.some.injEq, Prod.mk.injEq] at h
      rw [if_pos (by omega), h.2]
theorem wF_getD {q : Int} {v : Nat} : ∀ {L : List (Nat × Nat)} {W : List Int}, (∀ e, e ∈ L → e.1 < W.length) → (wF q W L).getD v 0 = if v ∈ L.map Prod.fst then q else W.getD v 0
  | [], W, _ => by
    show W.getD v 0 = if v ∈ ([] : List Nat) then q else W.getD v 0
    rw [if_neg List.not_mem_nil]
  | e :: L, W, h => by
    have he := h e List.mem_cons_self
    show (wF q (W.set e.1 q) L).getD v 0 = _
    rw [wF_getD (L := L) fun f hf => by rw [List.length_set]; exact h f (List.mem_cons_of_mem _ hf), getD_set he, List.map_cons]
    by_cases hv : v ∈ L.map Prod.fst
    · rw [if_pos hv, if_pos (List.mem_cons_of_mem _ hv)]
    · rw [if_neg hv]
      by_cases e2 : v = e.1
      · rw [if_pos e2, if_pos (by rw [e2]; exact List.mem_cons_self)]
      · rw [if_neg e2, if_neg (by simp only [List.mem_cons, not_or]; exact ⟨e2, hv⟩)]
theorem cF_out {o : List Int} {q : Int} {v : Nat} : ∀ {L : List (Nat × Nat)} {C : List Int}, (∀ e, e ∈ L → e.1 < C.length) → v ∉ L.map Prod.fst → (cF o q C L).getD v 0 = C.getD v 0
  | [], _, _, _ => rfl
  | e :: L, C, h, hv => by
    have he := h e List.mem_cons_self
    rw [List.map_cons, List.mem_cons, not_or] at hv
    show (cF o q (C.set e.1 _) L).getD v 0 = _
    rw [cF_out (L := L) (fun f hf => by rw [List.length_set]; exact h f (List.mem_cons_of_mem _ hf)) hv.2, getD_set he, if_neg hv.1]
theorem cF_at {o : List Int} {q : Int} : ∀ {L : List (Nat × Nat)} {C : List Int}, (∀ e, e ∈ L → e.1 < C.length) → (L.map Prod.fst).Nodup → ∀ {j v w : Nat}, L[j]? = some (v, w) → (cF o q C L).getD v 0 = if o.getD v 0 = q then (w : Int) else -1
  | e :: L, C, h, hn, 0, v, w, hj => by
    have he := h e List.mem_cons_self
    simp only [List.getElem?_cons_zero, Option.some.injEq] at hj
    subst hj
    rw [List.map_cons, List.nodup_cons] at hn
    show (cF o q (C.set v _) L).getD v 0 = _
    rw [cF_out (L := L) (fun f hf => by rw [List.length_set]; exact h f (List.mem_cons_of_mem _ hf)) hn.1, getD_set he, if_pos rfl]
  | e :: L, C, h, hn, j + 1, v, w, hj => by
    simp only [List.getElem?_cons_succ] at hj
    rw [List.map_cons, List.nodup_cons] at hn
    show (cF o q (C.set e.1 _) L).getD v 0 = _
    exact cF_at (L := L) (fun f hf => by rw [List.length_set]; exact h f (List.mem_cons_of_mem _ hf)) hn.2 hj
/-- Where there is a successor in the set, one is found. -/
theorem smF_in {l : List Bool} : ∀ {row : List Int}, (∃ t, t ∈ row ∧ l.getD t.toNat false = true) → smF l row ∈ row ∧ l.getD (smF l row).toNat false = true
  | [], h => by obtain ⟨t, ht, _⟩ := h; cases ht
  | t :: r, h => by
    unfold smF
    by_cases e : l.getD t.toNat false = true
    · rw [if_pos e]; exact ⟨List.mem_cons_self, e⟩
    · rw [if_neg e]
      obtain ⟨a, ha, hb⟩ := h
      rcases List.mem_cons.1 ha with rfl | ha
      · exact absurd hb e
      · obtain ⟨h1, h2⟩ := smF_in (row := r) ⟨a, ha, hb⟩
        exact ⟨List.mem_cons_of_mem _ h1, h2⟩
theorem rest_iff {g : Gm} {q : Int} {to K : List Bool} {L : List (Nat × Nat)} {es : List (Int × Int × Nat)} (hK : K.length = g.own.length) (h : AQ g q to K L es (qo to g.own.length L).length []) (v : Nat) : (woL K (atB to g.own.length L)).getD v false = true ↔ K.getD v false = true ∧ ¬ v ∈ qo to g.own.length L := by
  rw [woL_getD, Bool.and_eq_true, Bool.not_eq_true']
  constructor
  · rintro ⟨h1, h2⟩
    exact ⟨h1, fun hq => by rw [(atB_iff (lt_of_in (by omega) h1)).2 hq] at h2; cases h2⟩
  · rintro ⟨h1, h2⟩
    exact ⟨h1, Bool.eq_false_iff.2 fun hq => h2 ((atB_iff (lt_of_in (by omega) h1)).1 hq)⟩
theorem katB_iff {g : Gm} {q : Int} {to K : List Bool} {L : List (Nat × Nat)} {es : List (Int × Int × Nat)} (hK : K.length = g.own.length) (h : AQ g q to K L es (qo to g.own.length L).length []) (v : Nat) : v ∈ kp (atB to g.own.length L) g.own.length ↔ v ∈ qo to g.own.length L := by
  rw [kp_mem (by rw [atB_len]; omega)]
  rcases Nat.lt_or_ge v g.own.length with hv | hv
  · exact atB_iff hv
  · exact ⟨fun h2 => (by rw [getD_out (by rw [atB_len]; exact hv)] at h2; cases h2), fun h2 => absurd (lt_of_in (Nat.le_of_eq hK) (h.ql v h2)) (by omega)⟩
/-- What the recursion leaves. -/
structure ZS2 (g : Gm) (K : List Bool) (W C W' C' : List Int) : Prop where
  outW : ∀ v, K.getD v false = false → W'.getD v 0 = W.getD v 0
  outC : ∀ v, K.getD v false = false → C'.getD v 0 = C.getD v 0
  inW : ∀ v, K.getD v false = true → W'.getD v 0 = 0 ∨ W'.getD v 0 = 1
  inC : ∀ v, K.getD v false = true → g.own.getD v 0 ≠ W'.getD v 0 → C'.getD v 0 = -1
  inD : ∀ v, K.getD v false = true → g.own.getD v 0 = W'.getD v 0 → 0 ≤ C'.getD v 0
  sol : ∀ q, q = 0 ∨ q = 1 → Sol (fun v => g.own.getD v 0) (fun v => g.pri.getD v 0) (sc g.nxt) (fun v => K.getD v false = true) (fun v => W'.getD v 0) (fun v => (C'.getD v 0).toNat) q
theorem ZR_sol {g : Gm} (hV : Valid g) {K : List Bool} {W C W' C' : List Int} {left left' : Int} (h : ZR g K W C left W' C' left') : K.length = g.own.length → W.length = g.own.length → C.length = g.own.length → (∀ u, K.getD u false = true → ∃ v, v ∈ sc g.nxt u ∧ K.getD v false = true) → ZS2 g K W C W' C' := by
  obtain ⟨hn, hpl, hxl, hpos⟩ := id hV
  have hown : ∀ v, v < g.own.length → g.own.getD v 0 = 0 ∨ g.own.getD v 0 = 1 := fun v hv => by
    obtain ⟨⟨a1, a2, _⟩, _⟩ := hpos v hv
    simp only [Gm.o] at a1 a2
    omega
  have hpri : ∀ v, v < g.own.length → 0 ≤ g.pri.getD v 0 := fun v hv => by
    obtain ⟨⟨_, _, a3, _⟩, _⟩ := hpos v hv
    exact a3
  induction h with
  | @done K W C left h1 h2 =>
    intro hK hW hC hT
    have hno : ∀ v, ¬ K.getD v false = true := fun v hv => by
      have hlt := lt_of_in (Nat.le_of_eq hK) hv
      have := tp_le (p := g.pri) ((kp_mem (Nat.le_refl _)).2 hv)
      have := hpri v hlt
      omega
    exact ⟨fun _ _ => rfl, fun _ _ => rfl, fun v hv => absurd hv (hno v), fun v hv => absurd hv (hno v), fun v hv => absurd hv (hno v), fun q _ => Sol.none hno⟩
  | @all K W C left L es W1 C1 left1 h1 h2 h3 h4 h5 ih =>
    intro hK hW hC hT
    have hne : ∃ v, (tpU g.pri K).getD v false = true := by
      obtain ⟨v, h1, h2⟩ := tp_at h1
      exact ⟨v, by rw [tpU_getD, (kp_mem (Nat.le_refl _)).1 h1, h2]; simp⟩
    have hul : (tpU g.pri K).length = g.own.length := tpU_len.trans hK
    obtain ⟨hsT, _⟩ := AQ_rest hK (Nat.le_of_eq hul) h3 hne hT
    have S := ih (woL_len.trans hK) hW hC hsT
    obtain ⟨hW1, hC1, _, _⟩ := ZR_facts h4
    have hri := rest_iff hK h3
    have hki := katB_iff hK h3
    have hA0 := AQ_atr h3
    have hql := h3.ql
    have hfst := AQ_fst h3
    have hqn : ∀ v, v ∈ qo (tpU g.pri K) g.own.length L → v < g.own.length := fun v hv => lt_of_in (Nat.le_of_eq hK) (hql v hv)
    have hut : ∀ v, v ∈ kp (tpU g.pri K) g.own.length ↔ K.getD v false = true ∧ g.pri.getD v 0 = tpP g.pri K := fun v => by
      rw [kp_mem (Nat.le_of_eq hul), tpU_getD, Bool.and_eq_true, decide_eq_true_iff]
    generalize hsb : woL K (atB (tpU g.pri K) g.own.length L) = sub at *
    generalize hp2 : tpP g.pri K % 2 = p at *
    have hp01 : p = 0 ∨ p = 1 := by omega
    have hfW : ∀ v, (fsL (fun _ => p) (kp (atB (tpU g.pri K) g.own.length L) g.own.length) W1).getD v 0 = if v ∈ qo (tpU g.pri K) g.own.length L then p else W1.getD v 0 := fun v => by
      rw [fsL_getD fun k hk => by rw [hW1, hW]; exact hqn k ((hki k).1 hk)]
      by_cases hv : v ∈ qo (tpU g.pri K) g.own.length L
      · rw [if_pos hv, if_pos ((hki v).2 hv)]
      · rw [if_neg hv, if_neg fun h => hv ((hki v).1 h)]
    have hfC : ∀ v, (fsL (stC g.own g.nxt (tpU g.pri K) K p (mpF L).1) (kp (atB (tpU g.pri K) g.own.length L) g.own.length) C1).getD v 0 = if v ∈ qo (tpU g.pri K) g.own.length L then stC g.own g.nxt (tpU g.pri K) K p (mpF L).1 v else C1.getD v 0 := fun v => by
      rw [fsL_getD fun k hk => by rw [hC1, hC]; exact hqn k ((hki k).1 hk)]
      by_cases hv : v ∈ qo (tpU g.pri K) g.own.length L
      · rw [if_pos hv, if_pos ((hki v).2 hv)]
      · rw [if_neg hv, if_neg fun h => hv ((hki v).1 h)]
    have hWp : ∀ v, K.getD v false = true → ¬ v ∈ qo (tpU g.pri K) g.own.length L → W1.getD v 0 = p := fun v hv hq => h5 v ((kp_mem (by rw [← hsb, woL_len]; exact Nat.le_of_eq hK)).2 ((hri v).2 ⟨hv, hq⟩))
    have hWa : ∀ v, K.getD v false = true → (fsL (fun _ => p) (kp (atB (tpU g.pri K) g.own.length L) g.own.length) W1).getD v 0 = p := fun v hv => by
      rw [hfW]
      split
      · rfl
      · exact hWp v hv ‹_›
    have hsm : ∀ v, K.getD v false = true → smF K (g.nxt.getD v []) ∈ g.nxt.getD v [] ∧ K.getD (smF K (g.nxt.getD v [])).toNat false = true := fun v hv => by
      obtain ⟨t, ht, hk⟩ := hT v hv
      obtain ⟨z, hz, rfl⟩ := List.mem_map.1 ht
      exact smF_in ⟨z, hz, hk⟩
    have hst1 : ∀ v, v ∈ kp (tpU g.pri K) g.own.length → g.own.getD v 0 = p → stC g.own g.nxt (tpU g.pri K) K p (mpF L).1 v = smF K (g.nxt.getD v []) := fun v hv ho => by
      unfold stC
      rw [if_pos ho, if_pos (.inr ((kp_mem (Nat.le_of_eq hul)).1 hv))]
    have hst2 : ∀ v, v ∈ qo (tpU g.pri K) g.own.length L → ¬ v ∈ kp (tpU g.pri K) g.own.length → g.own.getD v 0 = p → stC g.own g.nxt (tpU g.pri K) K p (mpF L).1 v = chL L v := fun v hv hn ho => by
      have hm : v ∈ L.map Prod.fst := (List.mem_append.1 hv).resolve_left hn
      obtain ⟨⟨v', w⟩, he, rfl⟩ := List.mem_map.1 hm
      obtain ⟨j, hj, e⟩ := List.getElem_of_mem he
      have hj2 : L[j]? = some (v', w) := List.getElem?_eq_some_iff.2 ⟨hj, e⟩
      unfold stC
      rw [if_pos ho, if_neg, mpF_get hfst j v' w hj2, chL_at hfst hj2]
      rintro (h | h)
      · rw [mpF_has, decide_eq_true hm] at h; cases h
      · exact hn ((kp_mem (Nat.le_of_eq hul)).2 h)
    have hpos2 : ∀ v, v ∈ qo (tpU g.pri K) g.own.length L → g.own.getD v 0 = p → 0 ≤ stC g.own g.nxt (tpU g.pri K) K p (mpF L).1 v := fun v hv ho => by
      by_cases hn : v ∈ kp (tpU g.pri K) g.own.length
      · rw [hst1 v hn ho]
        exact ((row_of hV (hqn v hv)).2 _ (hsm v (hql v hv)).1).1
      · rw [hst2 v hv hn ho]; omega
    have hset : (fun v => sub.getD v false = true) = fun v => K.getD v false = true ∧ ¬ v ∈ qo (tpU g.pri K) g.own.length L := funext fun v => propext (hri v)
    have hall := sol_all (own := fun v => g.own.getD v 0) (pri := fun v => g.pri.getD v 0) (sx := sc g.nxt) (K := fun v => K.getD v false = true) (A := fun v => v ∈ qo (tpU g.pri K) g.own.length L) (T := fun v => v ∈ kp (tpU g.pri K) g.own.length) (W' := fun v => W1.getD v 0) (W := fun v => (fsL (fun _ => p) (kp (atB (tpU g.pri K) g.own.length L) g.own.length) W1).getD v 0)
      (c := fun v => ((fsL (stC g.own g.nxt (tpU g.pri K) K p (mpF L).1) (kp (atB (tpU g.pri K) g.own.length L) g.own.length) C1).getD v 0).toNat) (p := p) hp2
      (fun v hv => tp_le ((kp_mem (Nat.le_refl _)).2 hv)) hut
      (hA0.congr fun v hv hn ho => by rw [hfC, if_pos hv, hst2 v hv hn ho]; exact Int.toNat_natCast _)
      (fun v hv ho => by
        have hq : v ∈ qo (tpU g.pri K) g.own.length L := List.mem_append_left _ hv
        rw [hfC, if_pos hq, hst1 v hv ho]
        obtain ⟨h8, h9⟩ := hsm v (hql v hq)
        exact ⟨List.mem_map.2 ⟨_, h8, rfl⟩, h9⟩)
      (Sol.congr (c' := fun v => (C1.getD v 0).toNat) (by rw [← hset]; exact S.sol p hp01) fun v hv _ _ => by rw [hfC, if_neg hv.2])
      hWp hWa
    refine ⟨fun v hv => ?_, fun v hv => ?_, fun v hv => ?_, fun v hv ho => ?_, fun v hv ho => ?_, fun q hq => ?_⟩
    · rw [hfW, if_neg fun h => by rw [hql v h] at hv; cases hv]
      exact S.outW v (Bool.eq_false_iff.2 fun h => by rw [((hri v).1 h).1] at hv; cases hv)
    · rw [hfC, if_neg fun h => by rw [hql v h] at hv; cases hv]
      exact S.outC v (Bool.eq_false_iff.2 fun h => by rw [((hri v).1 h).1] at hv; cases hv)
    · rw [hWa v hv]; exact hp01
    · rw [hWa v hv] at ho
      rw [hfC]
      split
      · unfold stC; rw [if_neg ho]
      · have hq : ¬ v ∈ qo (tpU g.pri K) g.own.length L := ‹_›
        exact S.inC v ((hri v).2 ⟨hv, hq⟩) (by rw [hWp v hv hq]; exact ho)
    · rw [hWa v hv] at ho
      rw [hfC]
      split
      · exact hpos2 v ‹_› ho
      · have hq : ¬ v ∈ qo (tpU g.pri K) g.own.length L := ‹_›
        exact S.inD v ((hri v).2 ⟨hv, hq⟩) (by rw [hWp v hv hq]; exact ho)
    · by_cases e : q = p
      · rw [e]; exact hall.1
      · exact hall.2 q e
  | @part K W C left L es W1 C1 left1 L2 es2 W3 C3 left3 h1 h2 h3 h4 h5 h6 h7 ih1 ih2 =>
    intro hK hW hC hT
    have hne : ∃ v, (tpU g.pri K).getD v false = true := by
      obtain ⟨v, h1, h2⟩ := tp_at h1
      exact ⟨v, by rw [tpU_getD, (kp_mem (Nat.le_refl _)).1 h1, h2]; simp⟩
    have hul : (tpU g.pri K).length = g.own.length := tpU_len.trans hK
    obtain ⟨hsT, _⟩ := AQ_rest hK (Nat.le_of_eq hul) h3 hne hT
    have S1 := ih1 (woL_len.trans hK) hW hC hsT
    obtain ⟨hW1, hC1, _, _⟩ := ZR_facts h4
    have hri := rest_iff hK h3
    have hA0 := AQ_atr h3
    generalize hp2 : tpP g.pri K % 2 = p at *
    have hp01 : p = 0 ∨ p = 1 := by omega
    generalize hsb : woL K (atB (tpU g.pri K) g.own.length L) = sub at *
    have hsl : sub.length = g.own.length := by rw [← hsb]; exact woL_len.trans hK
    have hlo : ∀ v, v ∈ kp (loL sub W1 p) g.own.length ↔ sub.getD v false = true ∧ W1.getD v 0 = 1 - p := fun v => by
      rw [kp_mem (by rw [loL_len]; omega), loL_getD, Bool.and_eq_true, Bool.not_eq_true', decide_eq_false_iff_not]
      constructor
      · rintro ⟨h1, h2⟩
        have := S1.inW v h1
        exact ⟨h1, by omega⟩
      · rintro ⟨h1, h2⟩
        exact ⟨h1, by omega⟩
    have hne2 : ∃ v, (loL sub W1 p).getD v false = true := by
      obtain ⟨v, h8, h9⟩ := h5
      exact ⟨v, by rw [loL_getD, (kp_mem (Nat.le_of_eq hsl)).1 h8]; simpa using h9⟩
    have hll : (loL sub W1 p).length = g.own.length := loL_len.trans hsl
    obtain ⟨hrT, _⟩ := AQ_rest hK (Nat.le_of_eq hll) h6 hne2 hT
    have S2 := ih2 (woL_len.trans hK) (wF_len.trans (hW1.trans hW)) (cF_len.trans (hC1.trans hC)) hrT
    have hri2 := rest_iff hK h6
    have hB0 := AQ_atr h6
    have hqlB := h6.ql
    have hfst := AQ_fst h6
    have hdis : ∀ v, v ∈ kp (loL sub W1 p) g.own.length → ¬ v ∈ L2.map Prod.fst := fun v hv hm => (List.nodup_append.1 h6.nd).2.2 v hv v hm rfl
    generalize hkb : woL K (atB (loL sub W1 p) g.own.length L2) = K2 at *
    have hL2 : ∀ e, e ∈ L2 → e.1 < g.own.length := fun e he => lt_of_in (Nat.le_of_eq hK) (hqlB e.1 (List.mem_append_right _ (List.mem_map.2 ⟨e, he, rfl⟩)))
    have hBW : ∀ v, K2.getD v false = false → W3.getD v 0 = if v ∈ L2.map Prod.fst then 1 - p else W1.getD v 0 := fun v hv => by
      rw [S2.outW v hv, wF_getD fun e he => by rw [hW1, hW]; exact hL2 e he]
    have hC1l : ∀ e, e ∈ L2 → e.1 < C1.length := fun e he => by rw [hC1, hC]; exact hL2 e he
    have hnK2 : ∀ v, v ∈ qo (loL sub W1 p) g.own.length L2 → K2.getD v false = false := fun v hv => Bool.eq_false_iff.2 fun h => ((hri2 v).1 h).2 hv
    have hWB : ∀ v, v ∈ qo (loL sub W1 p) g.own.length L2 → W3.getD v 0 = 1 - p := fun v hv => by
      rw [hBW v (hnK2 v hv)]
      split
      · rfl
      · rename_i hm
        exact ((hlo v).1 ((List.mem_append.1 hv).resolve_right hm)).2
    have hCl : ∀ v, v ∈ kp (loL sub W1 p) g.own.length → C3.getD v 0 = C1.getD v 0 := fun v hv => by
      rw [S2.outC v (hnK2 v (List.mem_append_left _ hv)), cF_out hC1l (hdis v hv)]
    have hCt : ∀ v, v ∈ L2.map Prod.fst → C3.getD v 0 = if g.own.getD v 0 = 1 - p then (chL L2 v : Int) else -1 := fun v hv => by
      obtain ⟨⟨v', w⟩, he, rfl⟩ := List.mem_map.1 hv
      obtain ⟨j, hj, e⟩ := List.getElem_of_mem he
      have hj2 : L2[j]? = some (v', w) := List.getElem?_eq_some_iff.2 ⟨hj, e⟩
      rw [S2.outC v' (hnK2 v' (List.mem_append_right _ hv)), cF_at hC1l hfst hj2, chL_at hfst hj2]
    have hset : (fun v => sub.getD v false = true) = fun v => K.getD v false = true ∧ ¬ v ∈ qo (tpU g.pri K) g.own.length L := funext fun v => propext (hri v)
    have hset2 : (fun v => K2.getD v false = true) = fun v => K.getD v false = true ∧ ¬ v ∈ qo (loL sub W1 p) g.own.length L2 := funext fun v => propext (hri2 v)
    have hq01 : 1 - p = 0 ∨ 1 - p = 1 := by omega
    have hall := sol_part (own := fun v => g.own.getD v 0) (pri := fun v => g.pri.getD v 0) (sx := sc g.nxt) (K := fun v => K.getD v false = true) (A := fun v => v ∈ qo (tpU g.pri K) g.own.length L) (B := fun v => v ∈ qo (loL sub W1 p) g.own.length L2) (W' := fun v => W1.getD v 0) (W := fun v => W3.getD v 0) (W2 := fun v => W3.getD v 0)
      (c := fun v => (C3.getD v 0).toNat) (p := p) (q := 1 - p) (by omega)
      (fun v hv => by have := hown v (lt_of_in (Nat.le_of_eq hK) hv); show g.own.getD v 0 = p ∨ g.own.getD v 0 = 1 - p; omega) hA0
      (Sol.congr (c' := fun v => (C1.getD v 0).toNat) (by rw [← hset]; exact S1.sol (1 - p) hq01) fun v hv hw _ => by rw [hCl v ((hlo v).2 ⟨(hri v).2 hv, hw⟩)])
      ((hB0.congrT fun v => (hlo v).trans (and_congr_left' (hri v))).congr fun v hv hn ho => by
        have hn2 : ¬ v ∈ kp (loL sub W1 p) g.own.length := fun h => hn (((hlo v).trans (and_congr_left' (hri v))).1 h)
        have ho : g.own.getD v 0 = 1 - p := ho
        rw [hCt v ((List.mem_append.1 hv).resolve_left hn2), if_pos ho]
        exact Int.toNat_natCast _)
      (by rw [← hset2]; exact S2.sol p hp01) (by rw [← hset2]; exact S2.sol (1 - p) hq01) hWB (fun _ _ _ => rfl)
    have hin : ∀ v, K.getD v false = true → ¬ v ∈ qo (loL sub W1 p) g.own.length L2 → K2.getD v false = true := fun v hv hn => (hri2 v).2 ⟨hv, hn⟩
    have hout : ∀ v, K.getD v false = false → K2.getD v false = false ∧ sub.getD v false = false ∧ ¬ v ∈ L2.map Prod.fst := fun v hv => by
      refine ⟨Bool.eq_false_iff.2 fun h => ?_, Bool.eq_false_iff.2 fun h => ?_, fun h => ?_⟩
      · rw [((hri2 v).1 h).1] at hv; cases hv
      · rw [((hri v).1 h).1] at hv; cases hv
      · rw [hqlB v (List.mem_append_right _ h)] at hv; cases hv
    refine ⟨fun v hv => ?_, fun v hv => ?_, fun v hv => ?_, fun v hv ho => ?_, fun v hv ho => ?_, fun q hq => ?_⟩
    · obtain ⟨a1, a2, a3⟩ := hout v hv
      rw [hBW v a1, if_neg a3]
      exact S1.outW v a2
    · obtain ⟨a1, a2, a3⟩ := hout v hv
      rw [S2.outC v a1, cF_out hC1l a3]
      exact S1.outC v a2
    · by_cases hb : v ∈ qo (loL sub W1 p) g.own.length L2
      · rw [hWB v hb]; exact hq01
      · exact S2.inW v (hin v hv hb)
    · by_cases hb : v ∈ qo (loL sub W1 p) g.own.length L2
      · rw [hWB v hb] at ho
        by_cases hm : v ∈ L2.map Prod.fst
        · rw [hCt v hm, if_neg ho]
        · have hl := (List.mem_append.1 hb).resolve_right hm
          obtain ⟨b1, b2⟩ := (hlo v).1 hl
          rw [hCl v hl]
          exact S1.inC v b1 (by rw [b2]; exact ho)
      · exact S2.inC v (hin v hv hb) ho
    · by_cases hb : v ∈ qo (loL sub W1 p) g.own.length L2
      · rw [hWB v hb] at ho
        by_cases hm : v ∈ L2.map Prod.fst
        · rw [hCt v hm, if_pos ho]; omega
        · have hl := (List.mem_append.1 hb).resolve_right hm
          obtain ⟨b1, b2⟩ := (hlo v).1 hl
          rw [hCl v hl]
          exact S1.inD v b1 (by rw [b2]; exact ho)
      · exact S2.inD v (hin v hv hb) ho
    · have : q = p ∨ q = 1 - p := by omega
      rcases this with e | e
      · rw [e]; exact hall.1
      · rw [e]; exact hall.2
end Go.Proofs.Ytlckljphakkomaa.Cal
namespace Go.Proofs.Ytlckljphakkomaa.Cal
open Go Pl
def ctK (g : Gm) (K : List Bool) : Nat := cntZ g.own.length fun v => K.getD v false
/-- So many games are enough. -/
def BN (g : Gm) (K : List Bool) (c : Int) : Prop :=
  (∀ v, ¬ K.getD v false = true) ∧ 1 ≤ c ∨ (∃ a, ∀ v, K.getD v false = true → g.pri.getD v 0 = a) ∧ 2 ≤ c ∨ (∃ a b, ∀ v, K.getD v false = true → g.pri.getD v 0 = a ∨ g.pri.getD v 0 = b) ∧ 3 * (ctK g K : Int) + 2 ≤ c ∨ ((2 ^ (ctK g K + 1) : Nat) : Int) - 1 ≤ c
theorem BN_one {g : Gm} {K : List Bool} {c : Int} (h : BN g K c) : 1 ≤ c := by
  rcases h with ⟨_, h⟩ | ⟨_, h⟩ | ⟨_, h⟩ | h
  · exact h
  · omega
  · omega
  · have : 2 ^ 1 ≤ 2 ^ (ctK g K + 1) := Nat.pow_le_pow_right (by decide) (by omega)
    omega
theorem BN_step {g : Gm} {q : Int} {K : List Bool} {L : List (Nat × Nat)} {es : List (Int × Int × Nat)} (hK : K.length = g.own.length) (h0 : 0 ≤ tpP g.pri K) (h : AQ g q (tpU g.pri K) K L es (qo (tpU g.pri K) g.own.length L).length [])
    (hT : ∀ u, K.getD u false = true → ∃ v, v ∈ sc g.nxt u ∧ K.getD v false = true) {c : Int} (hb : BN g K c) :
    ∃ c1, BN g (woL K (atB (tpU g.pri K) g.own.length L)) c1 ∧ 1 + c1 ≤ c ∧ ∀ K2 : List Bool, (∀ v, K2.getD v false = true → K.getD v false = true) → ctK g K2 < ctK g K → (∃ v, (woL K (atB (tpU g.pri K) g.own.length L)).getD v false = true) → ∃ c2, BN g K2 c2 ∧ 1 + c1 + c2 ≤ c := by
  have hul : (tpU g.pri K).length = g.own.length := tpU_len.trans hK
  obtain ⟨v0, hv0, hv1⟩ := tp_at h0
  have hK0 := (kp_mem (Nat.le_refl _)).1 hv0
  obtain ⟨hsT, hsk⟩ := AQ_rest hK (Nat.le_of_eq hul) h ⟨v0, by rw [tpU_getD, hK0, hv1]; simp⟩ hT
  have hri := rest_iff hK h
  have hnt : ∀ v, (woL K (atB (tpU g.pri K) g.own.length L)).getD v false = true → K.getD v false = true ∧ g.pri.getD v 0 ≠ tpP g.pri K := fun v hv => by
    obtain ⟨a1, a2⟩ := (hri v).1 hv
    exact ⟨a1, fun e => a2 (List.mem_append_left _ ((kp_mem (Nat.le_of_eq hul)).2 (by rw [tpU_getD, a1, e]; simp)))⟩
  have hct : ctK g (woL K (atB (tpU g.pri K) g.own.length L)) < ctK g K := hsk
  generalize woL K (atB (tpU g.pri K) g.own.length L) = sub at *
  rcases hb with ⟨hb, _⟩ | ⟨⟨a, ha⟩, hc⟩ | ⟨⟨a, b, ha⟩, hc⟩ | hc
  · exact absurd hK0 (hb v0)
  · have hno : ∀ v, ¬ sub.getD v false = true := fun v hv => (hnt v hv).2 (by rw [ha v (hnt v hv).1, ← hv1, ha v0 hK0])
    exact ⟨1, .inl ⟨hno, Int.le_refl 1⟩, by omega, fun K2 _ _ ⟨v, hv⟩ => absurd hv (hno v)⟩
  · have ht : tpP g.pri K = a ∨ tpP g.pri K = b := by rw [← hv1]; exact ha v0 hK0
    refine ⟨2, .inr (.inl ⟨⟨if tpP g.pri K = a then b else a, fun v hv => ?_⟩, Int.le_refl 2⟩), by omega, fun K2 hs hl _ => ⟨3 * (ctK g K2 : Int) + 2, .inr (.inr (.inl ⟨⟨a, b, fun v hv => ha v (hs v hv)⟩, Int.le_refl _⟩)), by omega⟩⟩
    have := ha v (hnt v hv).1
    have := (hnt v hv).2
    split <;> omega
  · have h1 : 2 ^ (ctK g sub + 1) ≤ 2 ^ ctK g K := Nat.pow_le_pow_right (by decide) hct
    have h4 : 1 ≤ 2 ^ ctK g K := Nat.one_le_two_pow
    have h2 : 2 ^ (ctK g K + 1) = 2 * 2 ^ ctK g K := by rw [Nat.pow_succ, Nat.mul_comm]
    refine ⟨((2 ^ (ctK g sub + 1) : Nat) : Int) - 1, .inr (.inr (.inr (Int.le_refl _))), by omega, fun K2 hs hl _ => ⟨((2 ^ (ctK g K2 + 1) : Nat) : Int) - 1, .inr (.inr (.inr (Int.le_refl _))), ?_⟩⟩
    have h3 : 2 ^ (ctK g K2 + 1) ≤ 2 ^ ctK g K := Nat.pow_le_pow_right (by decide) hl
    omega
theorem woL_sub {K b : List Bool} {v : Nat} (h : (woL K b).getD v false = true) : K.getD v false = true := by
  rw [woL_getD, Bool.and_eq_true] at h; exact h.1
theorem lo_in {K : List Bool} {W : List Int} {p : Int} {n : Nat} (hl : K.length ≤ n) (h : ∃ v, v ∈ kp K n ∧ W.getD v 0 ≠ p) : (∃ v, (loL K W p).getD v false = true) ∧ ∃ v, K.getD v false = true := by
  obtain ⟨v, h1, h2⟩ := h
  exact ⟨⟨v, by rw [loL_getD, (kp_mem hl).1 h1]; simpa using h2⟩, v, (kp_mem hl).1 h1⟩
theorem ZR_cost {g : Gm} {K : List Bool} {W C W' C' : List Int} {left left' : Int} (h : ZR g K W C left W' C' left') : K.length = g.own.length → (∀ u, K.getD u false = true → ∃ v, v ∈ sc g.nxt u ∧ K.getD v false = true) → ∀ c, BN g K c → left - c ≤ left' := by
  induction h with
  | done h1 h2 => intro hK hT c hb; have := BN_one hb; omega
  | @all K W C left L es W1 C1 left1 h1 h2 h3 h4 h5 ih =>
    intro hK hT c hb
    obtain ⟨c1, b1, b2, _⟩ := BN_step hK h1 h3 hT hb
    have hul : (tpU g.pri K).length = g.own.length := tpU_len.trans hK
    obtain ⟨v0, hv0, hv1⟩ := tp_at h1
    have hK0 := (kp_mem (Nat.le_refl _)).1 hv0
    obtain ⟨hsT, _⟩ := AQ_rest hK (Nat.le_of_eq hul) h3 ⟨v0, by rw [tpU_getD, hK0, hv1]; simp⟩ hT
    have := ih (woL_len.trans hK) hsT c1 b1
    omega
  | @part K W C left L es W1 C1 left1 L2 es2 W3 C3 left3 h1 h2 h3 h4 h5 h6 h7 ih1 ih2 =>
    intro hK hT c hb
    obtain ⟨c1, b1, b2, b3⟩ := BN_step hK h1 h3 hT hb
    have hul : (tpU g.pri K).length = g.own.length := tpU_len.trans hK
    obtain ⟨v0, hv0, hv1⟩ := tp_at h1
    have hK0 := (kp_mem (Nat.le_refl _)).1 hv0
    obtain ⟨hsT, _⟩ := AQ_rest hK (Nat.le_of_eq hul) h3 ⟨v0, by rw [tpU_getD, hK0, hv1]; simp⟩ hT
    obtain ⟨l1, l2⟩ := lo_in (Nat.le_of_eq (woL_len.trans hK)) h5
    obtain ⟨hrT, hrk⟩ := AQ_rest hK (Nat.le_of_eq (loL_len.trans (woL_len.trans hK))) h6 l1 hT
    obtain ⟨c2, d1, d2⟩ := b3 _ (fun v hv => woL_sub hv) hrk l2
    have e1 := ih1 (woL_len.trans hK) hsT c1 b1
    have e2 := ih2 (woL_len.trans hK) hrT c2 d1
    omega
theorem ZP_cost {g : Gm} {K : List Bool} {W C : List Int} {left : Int} (h : ZP g K W C left) : K.length = g.own.length → (∀ u, K.getD u false = true → ∃ v, v ∈ sc g.nxt u ∧ K.getD v false = true) → ∀ c, BN g K c → left < c := by
  induction h with
  | here => intro hK hT c hb; have := BN_one hb; omega
  | @sub K W C left L es h1 h2 h3 h4 ih =>
    intro hK hT c hb
    obtain ⟨c1, b1, b2, _⟩ := BN_step hK h1 h3 hT hb
    have hul : (tpU g.pri K).length = g.own.length := tpU_len.trans hK
    obtain ⟨v0, hv0, hv1⟩ := tp_at h1
    have hK0 := (kp_mem (Nat.le_refl _)).1 hv0
    obtain ⟨hsT, _⟩ := AQ_rest hK (Nat.le_of_eq hul) h3 ⟨v0, by rw [tpU_getD, hK0, hv1]; simp⟩ hT
    have := ih (woL_len.trans hK) hsT c1 b1
    omega
  | @rest K W C left L es W1 C1 left1 L2 es2 h1 h2 h3 h4 h5 h6 h7 ih =>
    intro hK hT c hb
    obtain ⟨c1, b1, b2, b3⟩ := BN_step hK h1 h3 hT hb
    have hul : (tpU g.pri K).length = g.own.length := tpU_len.trans hK
    obtain ⟨v0, hv0, hv1⟩ := tp_at h1
    have hK0 := (kp_mem (Nat.le_refl _)).1 hv0
    obtain ⟨hsT, _⟩ := AQ_rest hK (Nat.le_of_eq hul) h3 ⟨v0, by rw [tpU_getD, hK0, hv1]; simp⟩ hT
    obtain ⟨l1, l2⟩ := lo_in (Nat.le_of_eq (woL_len.trans hK)) h5
    obtain ⟨hrT, hrk⟩ := AQ_rest hK (Nat.le_of_eq (loL_len.trans (woL_len.trans hK))) h6 l1 hT
    obtain ⟨c2, d1, d2⟩ := b3 _ (fun v hv => woL_sub hv) hrk l2
    have e1 := ZR_cost h4 (woL_len.trans hK) hsT c1 b1
    have e2 := ih (woL_len.trans hK) hrT c2 d1
    omega
end Go.Proofs.Ytlckljphakkomaa.Cal
namespace Go.Proofs.Ytlckljphakkomaa.Cal
section
open Go Pl
theorem Rch.mapD {E E' : Nat → Nat → Prop} {D : Nat → Prop} {f : Nat → Nat} (h : ∀ a b, D a → E a b → E' (f a) (f b) ∧ D b) {a b : Nat} (hr : Rch E a b) (ha : D a) : Rch E' (f a) (f b) ∧ D b := by
  induction hr with
  | refl => exact ⟨.refl _, ha⟩
  | step _ e ih => exact ⟨.step ih.1 (h _ _ ih.2 e).1, (h _ _ ih.2 e).2⟩
theorem kp_get {k : List Bool} {v : Nat} (h : k.getD v false = true) : ∀ {n : Nat}, v < n → (kp k v).length < (kp k n).length ∧ (kp k n).getD (kp k v).length 0 = v
  | 0, hv => absurd hv (Nat.not_lt_zero v)
  | n + 1, hv => by
    rw [kp_succ]
    by_cases e : v = n
    · subst e
      rw [if_pos h]
      refine ⟨by simp, ?_⟩
      rw [List.getD_eq_getElem?_getD, List.getElem?_append_right (Nat.le_refl _), Nat.sub_self]; rfl
    · obtain ⟨h1, h2⟩ := kp_get h (n := n) (by omega)
      split
      · refine ⟨by rw [List.length_append, List.length_singleton]; omega, ?_⟩
        rw [List.getD_eq_getElem?_getD, List.getElem?_append_left h1, ← List.getD_eq_getElem?_getD]; exact h2
      · exact ⟨h1, h2⟩
theorem kp_at {k : List Bool} {n i : Nat} (h : i < (kp k n).length) : (kp k n).getD i 0 < n ∧ k.getD ((kp k n).getD i 0) false = true := by
  have hm : (kp k n).getD i 0 ∈ kp k n := by
    rw [List.getD_eq_getElem?_getD, List.getElem?_eq_getElem h]; exact List.getElem_mem h
  have := List.mem_filter.1 hm
  exact ⟨List.mem_range.1 this.1, this.2⟩
theorem map_getD {α : Type} {f : Nat → α} {l : List Nat} {i : Nat} {d : α} (h : i < l.length) : (l.map f).getD i d = f (l.getD i 0) := by
  simp [List.getD_eq_getElem?_getD, h]
/-- The positions that p claims to win. -/
def selL (g : Gm) (W : List Int) (p : Int) : List Bool := (List.range g.own.length).map fun v => decide (W.getD v 0 = p)
theorem sel_iff {g : Gm} {W : List Int} {p : Int} {v : Nat} (hv : v < g.own.length) : (selL g W p).getD v false = true ↔ W.getD v 0 = p := by
  simp [selL, List.getD_eq_getElem?_getD, hv]
def nmF (k : List Bool) (v : Nat) : Int := if k.getD v false = true then ((kp k v).length : Int) else -1
/-- Where a play may go on. -/
def nxF (g : Gm) (C : List Int) (p : Int) (v : Nat) : List Int := if g.own.getD v 0 = p then [C.getD v 0] else g.nxt.getD v []
def folG (g : Gm) (W C : List Int) (p : Int) : Gm := ⟨(kp (selL g W p) g.own.length).map fun v => g.own.getD v 0, (kp (selL g W p) g.own.length).map fun v => g.pri.getD v 0, (kp (selL g W p) g.own.length).map fun v => (nxF g C p v).map fun t => nmF (selL g W p) t.toNat⟩
open Classical in
/-- Whether no play leaves the positions that p claims. -/
noncomputable def cloB (g : Gm) (W C : List Int) (p : Int) : Bool := decide (∀ v, v < g.own.length → W.getD v 0 = p → ∀ t, t ∈ nxF g C p v → W.getD t.toNat 0 = p)
open Classical in
noncomputable def claimB (g : Gm) (W C : List Int) : Bool := decide (W.length = g.own.length ∧ C.length = g.own.length ∧ ∀ v, v < g.own.length → (W.getD v 0 = 0 ∨ W.getD v 0 = 1) ∧ (g.own.getD v 0 = W.getD v 0 → C.getD v 0 ∈ g.nxt.getD v []) ∧ (g.own.getD v 0 ≠ W.getD v 0 → C.getD v 0 = -1))
noncomputable def slP (g : Gm) (W C : List Int) (p : Int) : Bool := cloB g W C p && !(aloneL (folG g W C p) (1 - p)).any id
noncomputable def solB (g : Gm) (W C : List Int) : Bool := claimB g W C && slP g W C 0 && slP g W C 1
theorem mem_ix {l : List Int} {t : Int} (h : t ∈ l) : ∃ j, j < l.length ∧ l.getD j 0 = t := by
  obtain ⟨j, hj, e⟩ := List.getElem_of_mem h
  exact ⟨j, hj, by rw [List.getD_eq_getElem?_getD, List.getElem?_eq_getElem hj, Option.getD_some]; exact e⟩
theorem nxF_bd {g : Gm} (hG : GOk g) {W C : List Int} {p : Int} (hc : ∀ v, v < g.own.length → W.getD v 0 = p → g.own.getD v 0 = p → C.getD v 0 ∈ g.nxt.getD v []) {v : Nat} (hv : v < g.own.length) (hw : W.getD v 0 = p) {t : Int} (ht : t ∈ nxF g C p v) :
    t ∈ g.nxt.getD v [] ∧ 0 ≤ t ∧ t < g.own.length := by
  have hm : t ∈ g.nxt.getD v [] := by
    unfold nxF at ht
    split at ht
    · rename_i h; rw [List.mem_singleton.1 ht]; exact hc v hv hw h
    · exact ht
  obtain ⟨j, hj, e⟩ := mem_ix hm
  have := hG.at' v hv j hj
  rw [e] at this
  exact ⟨hm, this⟩
/-- What the reference checks of p's positions is that p wins them. -/
theorem sl_iff {g : Gm} (hV : Valid g) {W C : List Int} {p : Int} (hp : p = 0 ∨ p = 1) (hc : ∀ v, v < g.own.length → W.getD v 0 = p → g.own.getD v 0 = p → C.getD v 0 ∈ g.nxt.getD v []) :
    slP g W C p = true ↔ Sol (fun v => g.own.getD v 0) (fun v => g.pri.getD v 0) (rws g.nxt) (fun v => v < g.own.length) (fun v => W.getD v 0) (fun v => (C.getD v 0).toNat) p := by
  have hG := gok hV
  have hn : (folG g W C p).own.length = (kp (selL g W p) g.own.length).length := List.length_map ..
  have hpr : ∀ i, i < (kp (selL g W p) g.own.length).length → (folG g W C p).pri.getD i 0 = g.pri.getD ((kp (selL g W p) g.own.length).getD i 0) 0 := fun i hi => map_getD hi
  have hrw : ∀ i, i < (kp (selL g W p) g.own.length).length → rws (folG g W C p).nxt i = (nxF g C p ((kp (selL g W p) g.own.length).getD i 0)).map fun t => (nmF (selL g W p) t.toNat).toNat := fun i hi => by
    have : (folG g W C p).nxt.getD i [] = (nxF g C p ((kp (selL g W p) g.own.length).getD i 0)).map fun t => nmF (selL g W p) t.toNat := map_getD hi
    unfold rws
    rw [this, List.map_map]; rfl
  have hnx : ∀ v t, t ∈ nxF g C p v → (g.own.getD v 0 = p → t.toNat = (C.getD v 0).toNat) ∧ (g.own.getD v 0 ≠ p → t.toNat ∈ rws g.nxt v) := fun v t ht => by
    unfold nxF at ht
    split at ht
    · rename_i h; rw [List.mem_singleton.1 ht]; exact ⟨fun _ => rfl, fun h2 => absurd h h2⟩
    · rename_i h; exact ⟨fun h2 => absurd h2 h, fun _ => List.mem_map.2 ⟨t, ht, rfl⟩⟩
  have hxn : ∀ v t, ((g.own.getD v 0 = p → t = (C.getD v 0).toNat) ∧ (g.own.getD v 0 ≠ p → t ∈ rws g.nxt v)) → ∃ s, s ∈ nxF g C p v ∧ s.toNat = t := fun v t h => by
    unfold nxF
    split
    · rename_i e; exact ⟨_, List.mem_singleton.2 rfl, (h.1 e).symm⟩
    · rename_i e; obtain ⟨s, h1, h2⟩ := List.mem_map.1 (h.2 e); exact ⟨s, h1, h2⟩
  have hany : (!(aloneL (folG g W C p) (1 - p)).any id) = true ↔ ∀ i, i < (kp (selL g W p) g.own.length).length → ¬ alone (folG g W C p) (1 - p) i := by
    rw [Bool.not_eq_true', List.any_eq_false]
    constructor
    · intro h i hi ha
      have h1 := (aloneL_getD (g := folG g W C p) (by rw [hn]; exact hi)).2 ha
      have hlt : i < (aloneL (folG g W C p) (1 - p)).length := by simp [aloneL, hn, hi]
      rw [List.getD_eq_getElem?_getD, List.getElem?_eq_getElem hlt, Option.getD_some] at h1
      exact h _ (List.getElem_mem hlt) (by rw [h1]; rfl)
    · intro h b hb hb2
      obtain ⟨i, hi, e⟩ := List.getElem_of_mem hb
      have hi2 : i < (kp (selL g W p) g.own.length).length := by simpa [aloneL, hn] using hi
      refine h i hi2 ((aloneL_getD (g := folG g W C p) (by rw [hn]; exact hi2)).1 ?_)
      rw [List.getD_eq_getElem?_getD, List.getElem?_eq_getElem hi, Option.getD_some, e]
      exact hb2
  unfold slP
  rw [Bool.and_eq_true, hany]
  constructor
  · rintro ⟨hcl, hno⟩
    have hcl := of_decide_eq_true hcl
    have hidx : ∀ v, v < g.own.length → W.getD v 0 = p → (kp (selL g W p) v).length < (kp (selL g W p) g.own.length).length ∧ (kp (selL g W p) g.own.length).getD (kp (selL g W p) v).length 0 = v := fun v hv hw => kp_get ((sel_iff hv).2 hw) hv
    refine ⟨fun v hv hw ho => ?_, fun v hv hw ho t ht hk => ?_, fun w hk hw hpw hcy => ?_⟩
    · have h1 := hc v hv hw ho
      have hm : C.getD v 0 ∈ nxF g C p v := by unfold nxF; rw [if_pos ho]; exact List.mem_singleton.2 rfl
      have hb := nxF_bd hG hc hv hw hm
      exact ⟨List.mem_map.2 ⟨_, h1, rfl⟩, by omega, hcl v hv hw _ hm⟩
    · obtain ⟨s, h1, h2⟩ := hxn v t ⟨fun h => absurd h ho, fun _ => ht⟩
      rw [← h2]; exact hcl v hv hw s h1
    · obtain ⟨t, ht, htw⟩ := hcy
      have hE : ∀ a b, True → Low (Stp (fun v => g.own.getD v 0) (rws g.nxt) (fun v => v < g.own.length) (fun v => W.getD v 0) (fun v => (C.getD v 0).toNat) p) (fun v => g.pri.getD v 0) w a b → Ed (rws (folG g W C p).nxt) (okP (folG g W C p).pri (g.pri.getD w 0)) (kp (selL g W p) a).length (kp (selL g W p) b).length ∧ True := fun a b _ hab => by
        obtain ⟨⟨⟨h1, h1w⟩, h2, h3, h4⟩, h5⟩ := hab
        obtain ⟨s, hs1, hs2⟩ := hxn a b ⟨h3, h4⟩
        obtain ⟨i1, i2⟩ := hidx a h1 h1w
        have hbw : W.getD b 0 = p := by rw [← hs2]; exact hcl a h1 h1w s hs1
        obtain ⟨j1, j2⟩ := hidx b h2 hbw
        refine ⟨⟨?_, ?_⟩, trivial⟩
        · rw [hrw _ i1, i2]
          refine List.mem_map.2 ⟨s, hs1, ?_⟩
          rw [hs2]
          unfold nmF
          rw [if_pos ((sel_iff h2).2 hbw)]; rfl
        · show (folG g W C p).pri.getD _ 0 ≤ _
          rw [hpr _ j1, j2]; exact h5
      obtain ⟨i1, i2⟩ := hidx w hk hw
      refine hno _ i1 ⟨_, by rw [hn]; exact i1, ⟨?_, (kp (selL g W p) t).length, ?_, ?_⟩, .refl _⟩
      · rw [hpr _ i1, i2]
        have := mod2 (g.pri.getD w 0)
        have hpw : ¬ g.pri.getD w 0 % 2 = p := hpw
        omega
      · rw [hpr _ i1, i2]; exact (hE w t trivial ht).1
      · rw [hpr _ i1, i2]; exact (Rch.mapD (D := fun _ => True) hE htw trivial).1
  · intro hS
    have hcl : ∀ v, v < g.own.length → W.getD v 0 = p → ∀ t, t ∈ nxF g C p v → W.getD t.toNat 0 = p := fun v hv hw t ht => by
      have hb := nxF_bd hG hc hv hw ht
      have := hnx v t ht
      by_cases e : g.own.getD v 0 = p
      · rw [this.1 e]; exact (hS.mine v hv hw e).2.2
      · exact hS.his v hv hw e t.toNat (this.2 e) (by omega)
    refine ⟨decide_eq_true hcl, fun i hi => ?_⟩
    rintro ⟨w, hwn, ⟨h1, t, ht, htw⟩, h2⟩
    rw [hn] at hwn
    have hE : ∀ a b, a < (kp (selL g W p) g.own.length).length → Ed (rws (folG g W C p).nxt) (okP (folG g W C p).pri ((folG g W C p).pri.getD w 0)) a b → Low (Stp (fun v => g.own.getD v 0) (rws g.nxt) (fun v => v < g.own.length) (fun v => W.getD v 0) (fun v => (C.getD v 0).toNat) p) (fun v => g.pri.getD v 0) ((kp (selL g W p) g.own.length).getD w 0) ((kp (selL g W p) g.own.length).getD a 0) ((kp (selL g W p) g.own.length).getD b 0) ∧ b < (kp (selL g W p) g.own.length).length := fun a b ha hab => by
      obtain ⟨h3, h4⟩ := hab
      rw [hrw a ha] at h3
      obtain ⟨s, hs1, hs2⟩ := List.mem_map.1 h3
      obtain ⟨k1, k2⟩ := kp_at ha
      have kw := (sel_iff k1).1 k2
      have hb := nxF_bd hG hc k1 kw hs1
      have hsn : s.toNat < g.own.length := by omega
      have hsw := hcl _ k1 kw s hs1
      have hsk := (sel_iff (g := g) (W := W) (p := p) hsn).2 hsw
      have hbi : b = (kp (selL g W p) s.toNat).length := by
        rw [← hs2]; unfold nmF; rw [if_pos hsk]; rfl
      obtain ⟨j1, j2⟩ := kp_get hsk hsn
      rw [← hbi] at j1 j2
      have h4 : (folG g W C p).pri.getD b 0 ≤ (folG g W C p).pri.getD w 0 := h4
      rw [hpr _ j1, hpr _ hwn] at h4
      refine ⟨⟨⟨⟨k1, kw⟩, ?_, ?_, ?_⟩, h4⟩, j1⟩
      · rw [j2]; exact hsn
      · rw [j2]; exact (hnx _ s hs1).1
      · rw [j2]; exact (hnx _ s hs1).2
    obtain ⟨k1, k2⟩ := kp_at hwn
    have kw := (sel_iff k1).1 k2
    have ht2 := hE w t hwn ht
    refine hS.cyc _ k1 kw (fun h3 => ?_) ⟨_, ht2.1, (Rch.mapD (D := fun a => a < (kp (selL g W p) g.own.length).length) hE htw ht2.2).1⟩
    have h1 : (folG g W C p).pri.getD w 0 % 2 = 1 - p := h1
    rw [hpr _ hwn] at h1
    have h3 : g.pri.getD ((kp (selL g W p) g.own.length).getD w 0) 0 % 2 = p := h3
    omega
theorem claim_c {g : Gm} {W C : List Int} {p : Int} (h : claimB g W C = true) : ∀ v, v < g.own.length → W.getD v 0 = p → g.own.getD v 0 = p → C.getD v 0 ∈ g.nxt.getD v [] := fun v hv hw ho => ((of_decide_eq_true h).2.2 v hv).2.1 (ho.trans hw.symm)
/-- A claim is a solution exactly if both players win by it where they claim to. -/
theorem solB_iff {g : Gm} (hV : Valid g) {W C : List Int} : solB g W C = true ↔ claimB g W C = true ∧ ∀ p, p = 0 ∨ p = 1 → Sol (fun v => g.own.getD v 0) (fun v => g.pri.getD v 0) (rws g.nxt) (fun v => v < g.own.length) (fun v => W.getD v 0) (fun v => (C.getD v 0).toNat) p := by
  unfold solB
  rw [Bool.and_eq_true, Bool.and_eq_true]
  constructor
  · rintro ⟨⟨h1, h2⟩, h3⟩
    refine ⟨h1, fun p hp => ?_⟩
    rcases hp with rfl | rfl
    · exact (sl_iff hV (.inl rfl) (claim_c h1)).1 h2
    · exact (sl_iff hV (.inr rfl) (claim_c h1)).1 h3
  · rintro ⟨h1, h2⟩
    exact ⟨⟨h1, (sl_iff hV (.inl rfl) (claim_c h1)).2 (h2 0 (.inl rfl))⟩, (sl_iff hV (.inr rfl) (claim_c h1)).2 (h2 1 (.inr rfl))⟩
end
end Go.Proofs.Ytlckljphakkomaa.Cal
namespace Go.Proofs.Ytlckljphakkomaa.Cal
open Go Pl
theorem zK {n v : Nat} : (List.replicate n true).getD v false = true ↔ v < n := by
  rw [List.getD_eq_getElem?_getD, List.getElem?_replicate]
  by_cases h : v < n
  · rw [if_pos h]; simp [h]
  · rw [if_neg h]; simp [h]
theorem zT {g : Gm} (hV : Valid g) : ∀ u, (List.replicate g.own.length true).getD u false = true → ∃ v, v ∈ sc g.nxt u ∧ (List.replicate g.own.length true).getD v false = true := fun u hu => by
  have hu := zK.1 hu
  obtain ⟨⟨_, _, _, _, a5, _⟩, hr⟩ := hV.2.2.2 u hu
  have a5 : 1 ≤ (g.nxt.getD u []).length := a5
  obtain ⟨z, hm⟩ := List.exists_mem_of_length_pos (show 0 < (g.nxt.getD u []).length from a5)
  have h2 := (row_of hV hu).2 _ hm
  exact ⟨_, List.mem_map.2 ⟨_, hm, rfl⟩, zK.2 (by omega)⟩
theorem zie_sol {g : Gm} (hV : Valid g) {W' C' : List Int} {left left' : Int} (h : ZR g (List.replicate g.own.length true) (List.replicate g.own.length (-1)) (List.replicate g.own.length (-1)) left W' C' left') : solB g W' C' = true ∧ W' = winA g := by
  have S := ZR_sol hV h List.length_replicate List.length_replicate List.length_replicate (zT hV)
  obtain ⟨hW, hC, _, _⟩ := ZR_facts h
  rw [List.length_replicate] at hW hC
  have hset : (fun v => (List.replicate g.own.length true).getD v false = true) = fun v => v < g.own.length := funext fun v => propext zK
  have hsol := S.sol
  rw [hset] at hsol
  obtain ⟨hw01, c, h0, h1⟩ := win_sol hV
  have hown : ∀ v, v < g.own.length → g.own.getD v 0 = 0 ∨ g.own.getD v 0 = 1 := fun v hv => by
    obtain ⟨⟨a1, a2, _⟩, _⟩ := hV.2.2.2 v hv
    simp only [Gm.o] at a1 a2
    omega
  refine ⟨(solB_iff hV).2 ⟨decide_eq_true ⟨hW, hC, fun v hv => ⟨S.inW v (zK.2 hv), fun ho => ?_, fun ho => S.inC v (zK.2 hv) ho⟩⟩, hsol⟩, ?_⟩
  · have h2 := S.inD v (zK.2 hv) ho
    have h3 := (hsol (W'.getD v 0) (S.inW v (zK.2 hv))).mine v hv rfl ho
    obtain ⟨z, hz, e⟩ := List.mem_map.1 h3.1
    have h4 := ((row_of hV hv).2 z hz).1
    have : z = C'.getD v 0 := by omega
    rw [← this]; exact hz
  · have hwl : (winA g).length = g.own.length := by simp [winA, winL]
    refine List.ext_getElem (hW.trans hwl.symm) fun v b1 b2 => ?_
    have hv : v < g.own.length := by omega
    have e1 : W'[v] = W'.getD v 0 := by rw [List.getD_eq_getElem?_getD, List.getElem?_eq_getElem b1]; rfl
    have e2 : (winA g)[v] = (winA g).getD v 0 := by rw [List.getD_eq_getElem?_getD, List.getElem?_eq_getElem b2]; rfl
    rw [e1, e2]
    have hx := hw01 v hv
    rcases S.inW v (zK.2 hv) with e | e
    · have := sol_apart (fun v hv => hv) (hsol 0 (.inl rfl)) h1 hown hv e
      have : (winA g).getD v 0 ≠ 1 := this
      omega
    · rcases hx with e3 | e3
      · exact absurd e (sol_apart (fun v hv => hv) h0 (hsol 1 (.inr rfl)) hown hv e3)
      · rw [e, e3]
/-- Only great games with many priorities are refused. -/
theorem zie_full {g : Gm} (hV : Valid g) {W C : List Int} (h : ZP g (List.replicate g.own.length true) W C 131072) : 16 < g.own.length ∧ ¬ ∃ a b, ∀ v, v < g.own.length → g.pri.getD v 0 = a ∨ g.pri.getD v 0 = b := by
  have hc := ZP_cost h List.length_replicate (zT hV)
  have hn : g.own.length ≤ 20000 := hV.1
  have hk : ctK g (List.replicate g.own.length true) ≤ g.own.length := by
    unfold ctK cntZ
    exact Nat.le_trans List.countP_le_length (by rw [List.length_range]; omega)
  refine ⟨Nat.lt_of_not_le fun hle => ?_, fun ⟨a, b, hab⟩ => ?_⟩
  · have h1 : 2 ^ (ctK g (List.replicate g.own.length true) + 1) ≤ 2 ^ 17 := Nat.pow_le_pow_right (by decide) (by omega)
    have := hc 131071 (.inr (.inr (.inr (by omega))))
    omega
  · have := hc (3 * (ctK g (List.replicate g.own.length true) : Int) + 2) (.inr (.inr (.inl ⟨⟨a, b, fun v hv => hab v (zK.1 hv)⟩, Int.le_refl _⟩)))
    omega
end Go.Proofs.Ytlckljphakkomaa.Cal
