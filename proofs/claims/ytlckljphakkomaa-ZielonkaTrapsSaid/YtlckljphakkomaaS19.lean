/- Own texts of the proof, merged, in order. -/
import Derived.Test.YtlckljphakkomaaS18
set_option linter.unusedVariables false
set_option linter.unusedSimpArgs false
namespace Go.Proofs.Ytlckljphakkomaa.Cal
open Go Pl
/-- Where taken positions go, as a map. -/
def mpF (L : List (Nat × Nat)) : List (Int × Int × Nat) × Nat := L.foldl (fun s e => (mput e.1 e.2 s.2 s.1, mclk e.1 s.2 s.1)) ([], 0)
theorem mpF_snoc {L : List (Nat × Nat)} {v w : Nat} : mpF (L ++ [(v, w)]) = (mput v w (mpF L).2 (mpF L).1, mclk v (mpF L).2 (mpF L).1) := by
  unfold mpF; rw [List.foldl_append]; rfl
theorem mpF_nil : mpF [] = ([], 0) := rfl
/-- Taken positions are won by q. -/
def wF (q : Int) (W : List Int) (L : List (Nat × Nat)) : List Int := L.foldl (fun W e => W.set e.1 q) W
theorem wF_nil {q : Int} {W : List Int} : wF q W [] = W := rfl
theorem wF_snoc {q : Int} {W : List Int} {L : List (Nat × Nat)} {v w : Nat} : wF q W (L ++ [(v, w)]) = (wF q W L).set v q := by
  unfold wF; rw [List.foldl_append]; rfl
theorem wF_len {q : Int} : ∀ {L : List (Nat × Nat)} {W : List Int}, (wF q W L).length = W.length
  | [], _ => rfl
  | e :: L, W => by
    show (wF q (W.set e.1 q) L).length = _
    rw [wF_len, List.length_set]
def cF (o : List Int) (q : Int) (C : List Int) (L : List (Nat × Nat)) : List Int := L.foldl (fun C e => C.set e.1 (if o.getD e.1 0 = q then (e.2 : Int) else -1)) C
theorem cF_nil {o : List Int} {q : Int} {C : List Int} : cF o q C [] = C := rfl
theorem cF_snoc {o : List Int} {q : Int} {C : List Int} {L : List (Nat × Nat)} {v w : Nat} : cF o q C (L ++ [(v, w)]) = (cF o q C L).set v (if o.getD v 0 = q then (w : Int) else -1) := by
  unfold cF; rw [List.foldl_append]; rfl
theorem cF_len {o : List Int} {q : Int} : ∀ {L : List (Nat × Nat)} {C : List Int}, (cF o q C L).length = C.length
  | [], _ => rfl
  | e :: L, C => by
    show (cF o q (C.set e.1 _) L).length = _
    rw [cF_len, List.length_set]
/-- The positions of a set that p does not win. -/
def loL (K : List Bool) (W : List Int) (p : Int) : List Bool := (List.range K.length).map fun v => K.getD v false && !decide (W.getD v 0 = p)
/-- The recursion comes to an end: what it leaves. -/
inductive ZR (g : Gm) : List Bool → List Int → List Int → Int → List Int → List Int → Int → Prop
  | done {K W C left} : tpP g.pri K < 0 → 0 < left → ZR g K W C left W C (left - 1)
  | all {K W C left L es W1 C1 left1} : 0 ≤ tpP g.pri K → 0 < left → AQ g (tpP g.pri K % 2) (tpU g.pri K) K L es (qo (tpU g.pri K) g.own.length L).length [] →
      ZR g (woL K (atB (tpU g.pri K) g.own.length L)) W C (left - 1) W1 C1 left1 → (∀ v, v ∈ kp (woL K (atB (tpU g.pri K) g.own.length L)) g.own.length → W1.getD v 0 = tpP g.pri K % 2) →
      ZR g K W C left (fsL (fun _ => tpP g.pri K % 2) (kp (atB (tpU g.pri K) g.own.length L) g.own.length) W1) (fsL (stC g.own g.nxt (tpU g.pri K) K (tpP g.pri K % 2) (mpF L).1) (kp (atB (tpU g.pri K) g.own.length L) g.own.length) C1) left1
  | part {K W C left L es W1 C1 left1 L2 es2 W3 C3 left3} : 0 ≤ tpP g.pri K → 0 < left → AQ g (tpP g.pri K % 2) (tpU g.pri K) K L es (qo (tpU g.pri K) g.own.length L).length [] →
      ZR g (woL K (atB (tpU g.pri K) g.own.length L)) W C (left - 1) W1 C1 left1 → (∃ v, v ∈ kp (woL K (atB (tpU g.pri K) g.own.length L)) g.own.length ∧ W1.getD v 0 ≠ tpP g.pri K % 2) →
      AQ g (1 - tpP g.pri K % 2) (loL (woL K (atB (tpU g.pri K) g.own.length L)) W1 (tpP g.pri K % 2)) K L2 es2 (qo (loL (woL K (atB (tpU g.pri K) g.own.length L)) W1 (tpP g.pri K % 2)) g.own.length L2).length [] →
      ZR g (woL K (atB (loL (woL K (atB (tpU g.pri K) g.own.length L)) W1 (tpP g.pri K % 2)) g.own.length L2)) (wF (1 - tpP g.pri K % 2) W1 L2) (cF g.own (1 - tpP g.pri K % 2) C1 L2) left1 W3 C3 left3 →
      ZR g K W C left W3 C3 left3
/-- It panics. -/
inductive ZP (g : Gm) : List Bool → List Int → List Int → Int → Prop
  | here {K W C} : ZP g K W C 0
  | sub {K W C left L es} : 0 ≤ tpP g.pri K → 0 < left → AQ g (tpP g.pri K % 2) (tpU g.pri K) K L es (qo (tpU g.pri K) g.own.length L).length [] →
      ZP g (woL K (atB (tpU g.pri K) g.own.length L)) W C (left - 1) → ZP g K W C left
  | rest {K W C left L es W1 C1 left1 L2 es2} : 0 ≤ tpP g.pri K → 0 < left → AQ g (tpP g.pri K % 2) (tpU g.pri K) K L es (qo (tpU g.pri K) g.own.length L).length [] →
      ZR g (woL K (atB (tpU g.pri K) g.own.length L)) W C (left - 1) W1 C1 left1 → (∃ v, v ∈ kp (woL K (atB (tpU g.pri K) g.own.length L)) g.own.length ∧ W1.getD v 0 ≠ tpP g.pri K % 2) →
      AQ g (1 - tpP g.pri K % 2) (loL (woL K (atB (tpU g.pri K) g.own.length L)) W1 (tpP g.pri K % 2)) K L2 es2 (qo (loL (woL K (atB (tpU g.pri K) g.own.length L)) W1 (tpP g.pri K % 2)) g.own.length L2).length [] →
      ZP g (woL K (atB (loL (woL K (atB (tpU g.pri K) g.own.length L)) W1 (tpP g.pri K % 2)) g.own.length L2)) (wF (1 - tpP g.pri K % 2) W1 L2) (cF g.own (1 - tpP g.pri K % 2) C1 L2) left1 → ZP g K W C left
theorem ZR_facts {g : Gm} {K : List Bool} {W C W' C' : List Int} {left left' : Int} (h : ZR g K W C left W' C' left') : W'.length = W.length ∧ C'.length = C.length ∧ 0 ≤ left' ∧ left' < left := by
  induction h with
  | done h1 h2 => exact ⟨rfl, rfl, by omega, by omega⟩
  | all h1 h2 h3 h4 h5 ih => exact ⟨fsL_len.trans ih.1, fsL_len.trans ih.2.1, ih.2.2.1, by omega⟩
  | part h1 h2 h3 h4 h5 h6 h7 ih1 ih2 => exact ⟨(ih2.1.trans wF_len).trans ih1.1, (ih2.2.1.trans cF_len).trans ih1.2.1, ih2.2.2.1, by omega⟩
theorem getD_out {l : List Bool} {v : Nat} (h : l.length ≤ v) : l.getD v false = false := by
  rw [List.getD_eq_getElem?_getD, List.getElem?_eq_none h]; rfl
theorem woL_len {l b : List Bool} : (woL l b).length = l.length := by simp [woL]
theorem woL_getD {l b : List Bool} {v : Nat} : (woL l b).getD v false = (l.getD v false && !b.getD v false) := by
  rcases Nat.lt_or_ge v l.length with h | h
  · simp [woL, List.getD_eq_getElem?_getD, h]
  · rw [getD_out (by rw [woL_len]; exact h), getD_out h]; rfl
theorem loL_len {K : List Bool} {W : List Int} {q : Int} : (loL K W q).length = K.length := by simp [loL]
theorem loL_getD {K : List Bool} {W : List Int} {q : Int} {v : Nat} : (loL K W q).getD v false = (K.getD v false && !decide (W.getD v 0 = q)) := by
  rcases Nat.lt_or_ge v K.length with h | h
  · simp [loL, List.getD_eq_getElem?_getD, h]
  · rw [getD_out (by rw [loL_len]; exact h), getD_out h]; rfl
theorem tpU_len {p : List Int} {K : List Bool} : (tpU p K).length = K.length := by simp [tpU]
theorem tpU_getD {p : List Int} {K : List Bool} {v : Nat} : (tpU p K).getD v false = (K.getD v false && decide (p.getD v 0 = tpP p K)) := by
  rcases Nat.lt_or_ge v K.length with h | h
  · simp [tpU, List.getD_eq_getElem?_getD, h]
  · rw [getD_out (by rw [tpU_len]; exact h), getD_out h]; rfl
theorem kp_mem {l : List Bool} {n v : Nat} (hl : l.length ≤ n) : v ∈ kp l n ↔ l.getD v false = true :=
  ⟨fun h => (List.mem_filter.1 h).2, fun h => List.mem_filter.2 ⟨List.mem_range.2 (lt_of_in hl h), h⟩⟩
/-- Something has the greatest priority. -/
theorem tpL_le {p : List Int} : ∀ {ks : List Nat} {a : Int} {v : Nat}, v ∈ ks → p.getD v 0 ≤ ks.foldl (fun m v => max m (p.getD v 0)) a
  | [], _, _, h => absurd h List.not_mem_nil
  | k :: ks, a, v, h => by
    have hmono : ∀ (ks : List Nat) (a : Int), a ≤ ks.foldl (fun m v => max m (p.getD v 0)) a := fun ks => by
      induction ks with
      | nil => exact fun a => Int.le_refl a
      | cons k ks ih => exact fun a => Int.le_trans (Int.le_max_left _ _) (ih _)
    rcases List.mem_cons.1 h with rfl | h
    · exact Int.le_trans (Int.le_max_right _ _) (hmono ks _)
    · exact tpL_le (ks := ks) h
theorem tpL_at {p : List Int} : ∀ {ks : List Nat} {a : Int}, ks.foldl (fun m v => max m (p.getD v 0)) a = a ∨ ∃ v, v ∈ ks ∧ p.getD v 0 = ks.foldl (fun m v => max m (p.getD v 0)) a
  | [], a => .inl rfl
  | k :: ks, a => by
    rcases tpL_at (p := p) (ks := ks) (a := max a (p.getD k 0)) with h | ⟨v, h1, h2⟩
    · rcases Int.le_total a (p.getD k 0) with h3 | h3
      · exact .inr ⟨k, List.mem_cons_self, by
          show _ = ks.foldl _ (max a (p.getD k 0))
          rw [h, Int.max_eq_right h3]⟩
      · refine .inl ?_
        show ks.foldl _ (max a (p.getD k 0)) = a
        rw [h, Int.max_eq_left h3]
    · exact .inr ⟨v, List.mem_cons_of_mem _ h1, h2⟩
theorem tp_at {p : List Int} {K : List Bool} (h : 0 ≤ tpP p K) : ∃ v, v ∈ kp K K.length ∧ p.getD v 0 = tpP p K := by
  rcases tpL_at (p := p) (ks := kp K K.length) (a := -1) with h1 | h1
  · have : tpP p K = -1 := h1
    omega
  · exact h1
theorem tp_le {p : List Int} {K : List Bool} {v : Nat} (h : v ∈ kp K K.length) : p.getD v 0 ≤ tpP p K := tpL_le h
/-- What is left of a part is one, and smaller. -/
theorem AQ_rest {g : Gm} {q : Int} {to K : List Bool} {L : List (Nat × Nat)} {es : List (Int × Int × Nat)} (hK : K.length = g.own.length) (htl : to.length ≤ g.own.length) (h : AQ g q to K L es (qo to g.own.length L).length []) (hne : ∃ v, to.getD v false = true)
    (hT : ∀ u, K.getD u false = true → ∃ v, v ∈ sc g.nxt u ∧ K.getD v false = true) :
    (∀ u, (woL K (atB to g.own.length L)).getD u false = true → ∃ v, v ∈ sc g.nxt u ∧ (woL K (atB to g.own.length L)).getD v false = true) ∧ cntZ g.own.length (fun v => (woL K (atB to g.own.length L)).getD v false) < cntZ g.own.length (fun v => K.getD v false) := by
  have hiff : ∀ v, (woL K (atB to g.own.length L)).getD v false = true ↔ K.getD v false = true ∧ ¬ v ∈ qo to g.own.length L := fun v => by
    rw [woL_getD, Bool.and_eq_true, Bool.not_eq_true']
    constructor
    · rintro ⟨h1, h2⟩
      exact ⟨h1, fun hq => by rw [(atB_iff (lt_of_in (by omega) h1)).2 hq] at h2; cases h2⟩
    · rintro ⟨h1, h2⟩
      exact ⟨h1, Bool.eq_false_iff.2 fun hq => h2 ((atB_iff (lt_of_in (by omega) h1)).1 hq)⟩
  refine ⟨fun u hu => ?_, ?_⟩
  · obtain ⟨v, h1, h2⟩ := (AQ_atr h).trap hT u ((hiff u).1 hu)
    exact ⟨v, h1, (hiff v).2 h2⟩
  · obtain ⟨v, hv⟩ := hne
    have hq : v ∈ qo to g.own.length L := List.mem_append_left _ ((kp_mem htl).2 hv)
    have hKv := h.ql v hq
    exact cnt_lt (v := v) (fun u hu => ((hiff u).1 hu).1) (lt_of_in (by omega) hKv) hKv (Bool.eq_false_iff.2 fun e => ((hiff v).1 e).2 hq)
end Go.Proofs.Ytlckljphakkomaa.Cal
namespace Go.Proofs.Ytlckljphakkomaa.Cal
open Go Pl
def spWi : Nat → Option Spec
  | 32 => some membersS
  | 48 => some withoutS
  | _ => none
theorem spWi_ok : SpOK Try.prog spWi := by
  intro f S h
  unfold spWi at h
  split at h
  · cases h; exact members_ok
  · cases h; exact without_ok
  · cases h
structure ZS where
  K : List Bool
  W : List Int
  C : List Int
  left : Int
/-- What is asked of a part. -/
structure ZI (g : Gm) (t : ZS) : Prop where
  lK : t.K.length = g.own.length
  lW : t.W.length = g.own.length
  lC : t.C.length = g.own.length
  l0 : 0 ≤ t.left
  l1 : t.left ≤ 131072
  tr : ∀ u, t.K.getD u false = true → ∃ v, v ∈ sc g.nxt u ∧ t.K.getD v false = true
set_option maxRecDepth 4000 in
set_option maxHeartbeats 4000000 in
theorem within_fp {o p : List Int} {x : List (List Int)} (hV : Valid ⟨o, p, x⟩) : ∀ (k : Nat) (s : ZS), ZI ⟨o, p, x⟩ s → cntZ o.length (fun v => s.K.getD v false) < k →
    FP Try.prog 43 [.roB s.K, .own 3, .own 4] [(0, some (.box (svA o p x (backL x) s.left 1 2))), (1, some (.ints s.W)), (2, some (.ints s.C)), (3, some (.box (.own 0))), (4, some (.box (.fn 43 (.cons (.own 3) (.cons (.own 4) .nil)))))] 5 (fun c => c = refusedV ∧ ZP ⟨o, p, x⟩ s.K s.W s.C s.left)
      fun g => ∃ W' C' l', ZR ⟨o, p, x⟩ s.K s.W s.C s.left W' C' l' ∧ g = ⟨5, resV [], [(0, some (.box (svA o p x (backL x) l' 1 2))), (1, some (.ints W')), (2, some (.ints C')), (3, some (.box (.own 0))), (4, some (.box (.fn 43 (.cons (.own 3) (.cons (.own 4) .nil)))))]⟩
  | 0, s, _, h => absurd h (Nat.not_lt_zero _)
  | k + 1, s, hs, hk => by
    obtain ⟨hn, hpl, hxl, hpos⟩ := id hV
    simp only [Gm.n] at hn hpl hxl
    refine fp_of htb (fn := Try.f43) (by kernel_rfl) (by kernel_rfl) rfl (Nat.le_of_ble_eq_true rfl) fun hl => ?_
    simp only [lenP, mkL, lim] at hl
    refine awp_mark0 rfl ?_
    repeat' first
      | with_reducible first | refine awp_seq ?_ | refine awp_block ?_ | refine next_then ?_ | refine next_block ?_ | refine exit_then ?_ | refine ret_then ?_ | refine ret_block ?_ | refine exit_here ?_ | refine awp_exit ?_ | refine awp_ret ?_ | refine awp_skip ?_ | refine awp_label ?_ | refine next_noGoto ?_ | refine ret_noGoto ?_ | refine exit_noGoto ?_ | refine awp_scope ?_
      | ((with_reducible refine exit_past ?_ ?_); exact rfl)
      | ((with_reducible refine isCond ?_); refine awp_condO rfl ?_ ?_ <;> intro hb <;> (try simp only [zH] at hb))
      | ((with_reducible refine isRegS 0 ?_ ?_); (· exact rfl); (first | refine awp_textM htb hmz spWi_ok (fun _ => false) rfl rfl ?_ | refine awp_drawM hmo htb hmz spWi_ok (fun _ => false) rfl rfl (by kernel_rfl) ?_); intro m' e' l' ob h; simp only [zE0, zE1, zE2, zE3, zE4, zE5, evp, evx, ev1, evLoad, evStore, evBin, isBoolK, forall_const, z38, tb, Nat.reduceAdd, Nat.reduceSub, Nat.reduceMul, Nat.reduceEqDiff, Nat.reduceLeDiff, Nat.reduceLT, Nat.reduceBEq, Nat.reduceBNe, ↓reduceIte, reduceIte, svA, spWi, membersS, withoutS, mpF_nil, wF_nil, cF_nil] at h; obtain ⟨rfl, rfl, rfl, rfl⟩ := h; refine ⟨?_, ?_⟩)
      | ((with_reducible refine Ob.mk ?_); first | exact trivial | (intros; omega) | ((repeat' first | apply And.intro | (intro hg; have hg' := hg; try simp only [zH] at hg')) <;> first | (with_reducible exact True.intro) | assumption | omega | (simp only [zH]; omega)))
    refine awp_loopC (τ := ZS) (fun t => ZI ⟨o, p, x⟩ t ∧ cntZ o.length (fun v => t.K.getD v false) ≤ k ∧ (∀ W' C' l', ZR ⟨o, p, x⟩ t.K t.W t.C t.left W' C' l' → ZR ⟨o, p, x⟩ s.K s.W s.C s.left W' C' l') ∧ (ZP ⟨o, p, x⟩ t.K t.W t.C t.left → ZP ⟨o, p, x⟩ s.K s.W s.C s.left))
      (fun t => ⟨6, [(0, .roB t.K), (1, .own 3), (2, .own 4)], [(5, some .dfr), (0, some (.box (svA o p x (backL x) t.left 1 2))), (1, some (.ints t.W)), (2, some (.ints t.C)), (3, some (.box (.own 0))), (4, some (.box (.fn 43 (.cons (.own 3) (.cons (.own 4) .nil)))))], [5]⟩) (fun t => cntZ o.length (fun v => t.K.getD v false)) s [] ?_ ⟨hs, by omega, fun _ _ _ h => h, id⟩ ?_
    · (refine ⟨rfl, ?_, ?_⟩ <;> simp only [zE0, zE1, zE2, zE3, zE4, zE5, evp, evx, ev1, evLoad, evStore, evBin, isBoolK, forall_const, z38, tb, Nat.reduceAdd, Nat.reduceSub, Nat.reduceMul, Nat.reduceEqDiff, Nat.reduceLeDiff, Nat.reduceLT, Nat.reduceBEq, Nat.reduceBNe, ↓reduceIte, reduceIte, svA, spWi, membersS, withoutS, mpF_nil, wF_nil, cF_nil, zI])
    rintro t ⟨hw, hkk, hR, hP⟩
    have hlK : t.K.length = o.length := hw.lK
    have hlW : t.W.length = o.length := hw.lW
    have hlC : t.C.length = o.length := hw.lC
    have hl0 := hw.l0
    have hl1 := hw.l1
    repeat' first
      | with_reducible first | refine awp_seq ?_ | refine awp_block ?_ | refine next_then ?_ | refine next_block ?_ | refine exit_then ?_ | refine ret_then ?_ | refine ret_block ?_ | refine exit_here ?_ | refine awp_exit ?_ | refine awp_ret ?_ | refine awp_skip ?_ | refine awp_label ?_ | refine next_noGoto ?_ | refine ret_noGoto ?_ | refine exit_noGoto ?_ | refine awp_scope ?_
      | ((with_reducible refine exit_past ?_ ?_); exact rfl)
      | ((with_reducible refine isCond ?_); refine awp_condO rfl ?_ ?_ <;> intro hb <;> (try simp only [zH] at hb))
      | ((with_reducible refine isRegS 0 ?_ ?_); (· exact rfl); (first | refine awp_textM htb hmz spWi_ok (fun _ => false) rfl rfl ?_ | refine awp_drawM hmo htb hmz spWi_ok (fun _ => false) rfl rfl (by kernel_rfl) ?_); intro m' e' l' ob h; simp only [zE0, zE1, zE2, zE3, zE4, zE5, evp, evx, ev1, evLoad, evStore, evBin, isBoolK, forall_const, z38, tb, Nat.reduceAdd, Nat.reduceSub, Nat.reduceMul, Nat.reduceEqDiff, Nat.reduceLeDiff, Nat.reduceLT, Nat.reduceBEq, Nat.reduceBNe, ↓reduceIte, reduceIte, svA, spWi, membersS, withoutS, mpF_nil, wF_nil, cF_nil] at h; obtain ⟨rfl, rfl, rfl, rfl⟩ := h; refine ⟨?_, ?_⟩)
      | ((with_reducible refine Ob.mk ?_); first | exact trivial | (intros; omega) | ((repeat' first | apply And.intro | (intro hg; have hg' := hg; try simp only [zH] at hg')) <;> first | (with_reducible exact True.intro) | assumption | omega | (simp only [zH]; omega)))
    refine awp_cut ([_]) ([]) rfl rfl ?_
    refine awpL_text htb hmz spWi_ok (fun _ => false) rfl rfl rfl ?_; intro m' e' l' ob h; simp only [zE0, zE1, zE2, zE3, zE4, zE5, evp, evx, ev1, evLoad, evStore, evBin, isBoolK, forall_const, z38, tb, Nat.reduceAdd, Nat.reduceSub, Nat.reduceMul, Nat.reduceEqDiff, Nat.reduceLeDiff, Nat.reduceLT, Nat.reduceBEq, Nat.reduceBNe, ↓reduceIte, reduceIte, svA, spWi, membersS, withoutS, mpF_nil, wF_nil, cF_nil] at h; obtain ⟨rfl, rfl, rfl, rfl⟩ := h; refine ⟨?_, next_then ?_⟩
    · first | ((with_reducible refine Ob.mk ?_); first | exact trivial | (intros; omega) | ((repeat' first | apply And.intro | (intro hg; have hg' := hg; try simp only [zH] at hg')) <;> first | (with_reducible exact True.intro) | assumption | omega | (simp only [zH]; omega))) | skip
    refine awpL_callP ([0, 1, 2]) (count_fp (o := o) (p := p) (x := x) (B := backL x) (left := t.left) (W := t.W) (C := t.C) hl0 hl1) rfl rfl rfl rfl rfl rfl rfl rfl rfl (by simp only [rinR, rhoC, zE0, zE1, zE2, zE3, zE4, zE5, evp, evx, ev1, evLoad, evStore, evBin, isBoolK, forall_const, z38, tb, Nat.reduceAdd, Nat.reduceSub, Nat.reduceMul, Nat.reduceEqDiff, Nat.reduceLeDiff, Nat.reduceLT, Nat.reduceBEq, Nat.reduceBNe, ↓reduceIte, reduceIte, svA, spWi, membersS, withoutS, mpF_nil, wF_nil, cF_nil]) ?_ ?pan1; intro gm gv gr hq m' e' l' h; obtain ⟨hlp, hq⟩ := hq; simp only [GR.mk.injEq] at hq; obtain ⟨rfl, rfl, rfl⟩ := hq; simp only [rhoC, outR, renR, dels, zE0, zE1, zE2, zE3, zE4, zE5, evp, evx, ev1, evLoad, evStore, evBin, isBoolK, forall_const, z38, tb, Nat.reduceAdd, Nat.reduceSub, Nat.reduceMul, Nat.reduceEqDiff, Nat.reduceLeDiff, Nat.reduceLT, Nat.reduceBEq, Nat.reduceBNe, ↓reduceIte, reduceIte, svA, spWi, membersS, withoutS, mpF_nil, wF_nil, cF_nil] at h; obtain ⟨rfl, rfl, rfl⟩ := h; refine next_then ?_
    case pan1 =>
      rintro c ⟨rfl, h0⟩
      repeat' first | with_reducible refine pan_then ?_ | with_reducible refine pan_block ?_ | with_reducible refine pan_noGoto ?_
      exact panP (⟨rfl, hP (h0 ▸ .here)⟩) (fun k hk => by rw [List.mem_singleton.1 hk]; rfl) (by show List.Nodup [5]; decide)
    refine awpL_text htb hmz spWi_ok (fun _ => false) rfl rfl rfl ?_; intro m' e' l' ob h; simp only [zE0, zE1, zE2, zE3, zE4, zE5, evp, evx, ev1, evLoad, evStore, evBin, isBoolK, forall_const, z38, tb, Nat.reduceAdd, Nat.reduceSub, Nat.reduceMul, Nat.reduceEqDiff, Nat.reduceLeDiff, Nat.reduceLT, Nat.reduceBEq, Nat.reduceBNe, ↓reduceIte, reduceIte, svA, spWi, membersS, withoutS, mpF_nil, wF_nil, cF_nil] at h; obtain ⟨rfl, rfl, rfl, rfl⟩ := h; refine ⟨?_, ?_⟩
    · first | ((with_reducible refine Ob.mk ?_); first | exact trivial | (intros; omega) | ((repeat' first | apply And.intro | (intro hg; have hg' := hg; try simp only [zH] at hg')) <;> first | (with_reducible exact True.intro) | assumption | omega | (simp only [zH]; omega))) | skip
    repeat' first
      | with_reducible first | refine awp_seq ?_ | refine awp_block ?_ | refine next_then ?_ | refine next_block ?_ | refine exit_then ?_ | refine ret_then ?_ | refine ret_block ?_ | refine exit_here ?_ | refine awp_exit ?_ | refine awp_ret ?_ | refine awp_skip ?_ | refine awp_label ?_ | refine next_noGoto ?_ | refine ret_noGoto ?_ | refine exit_noGoto ?_ | refine awp_scope ?_
      | ((with_reducible refine exit_past ?_ ?_); exact rfl)
      | ((with_reducible refine isCond ?_); refine awp_condO rfl ?_ ?_ <;> intro hb <;> (try simp only [zH] at hb))
      | ((with_reducible refine isRegS 1 ?_ ?_); (· exact rfl); (first | refine awp_textM htb hmz spWi_ok (fun _ => false) rfl rfl ?_ | refine awp_drawM hmo htb hmz spWi_ok (fun _ => false) rfl rfl (by kernel_rfl) ?_); intro m' e' l' ob h; simp only [zE0, zE1, zE2, zE3, zE4, zE5, evp, evx, ev1, evLoad, evStore, evBin, isBoolK, forall_const, z38, tb, Nat.reduceAdd, Nat.reduceSub, Nat.reduceMul, Nat.reduceEqDiff, Nat.reduceLeDiff, Nat.reduceLT, Nat.reduceBEq, Nat.reduceBNe, ↓reduceIte, reduceIte, svA, spWi, membersS, withoutS, mpF_nil, wF_nil, cF_nil] at h; obtain ⟨rfl, rfl, rfl, rfl⟩ := h; refine ⟨?_, ?_⟩)
      | ((with_reducible refine Ob.mk ?_); first | exact trivial | (intros; omega) | ((repeat' first | apply And.intro | (intro hg; have hg' := hg; try simp only [zH] at hg')) <;> first | (with_reducible exact True.intro) | assumption | omega | (simp only [zH]; omega)))
    refine awp_cut ([_, _]) ([_, _, _, _, _, _, _]) rfl rfl ?_
    refine awpL_text htb hmz spWi_ok (fun _ => false) rfl rfl rfl ?_; intro m' e' l' ob h; simp only [zE0, zE1, zE2, zE3, zE4, zE5, evp, evx, ev1, evLoad, evStore, evBin, isBoolK, forall_const, z38, tb, Nat.reduceAdd, Nat.reduceSub, Nat.reduceMul, Nat.reduceEqDiff, Nat.reduceLeDiff, Nat.reduceLT, Nat.reduceBEq, Nat.reduceBNe, ↓reduceIte, reduceIte, svA, spWi, membersS, withoutS, mpF_nil, wF_nil, cF_nil] at h; obtain ⟨rfl, rfl, rfl, rfl⟩ := h; refine ⟨?_, next_then ?_⟩
    · first | ((with_reducible refine Ob.mk ?_); first | exact trivial | (intros; omega) | ((repeat' first | apply And.intro | (intro hg; have hg' := hg; try simp only [zH] at hg')) <;> first | (with_reducible exact True.intro) | assumption | omega | (simp only [zH]; omega))) | skip
    refine awpL_callG ([0, 1, 2]) (top_fg (o := o) (p := p) (x := x) (B := backL x) (left := t.left - 1) (W := t.W) (C := t.C) (l := t.K) (by omega) (by omega)) rfl rfl rfl rfl rfl rfl rfl rfl rfl (by simp only [rinR, rhoC, zE0, zE1, zE2, zE3, zE4, zE5, evp, evx, ev1, evLoad, evStore, evBin, isBoolK, forall_const, z38, tb, Nat.reduceAdd, Nat.reduceSub, Nat.reduceMul, Nat.reduceEqDiff, Nat.reduceLeDiff, Nat.reduceLT, Nat.reduceBEq, Nat.reduceBNe, ↓reduceIte, reduceIte, svA, spWi, membersS, withoutS, mpF_nil, wF_nil, cF_nil]) ?_; intro gm gv gr hq m' e' l' h; simp only [GR.mk.injEq] at hq; obtain ⟨rfl, rfl, rfl⟩ := hq; simp only [rhoC, outR, renR, dels, zE0, zE1, zE2, zE3, zE4, zE5, evp, evx, ev1, evLoad, evStore, evBin, isBoolK, forall_const, z38, tb, Nat.reduceAdd, Nat.reduceSub, Nat.reduceMul, Nat.reduceEqDiff, Nat.reduceLeDiff, Nat.reduceLT, Nat.reduceBEq, Nat.reduceBNe, ↓reduceIte, reduceIte, svA, spWi, membersS, withoutS, mpF_nil, wF_nil, cF_nil] at h; obtain ⟨rfl, rfl, rfl⟩ := h; refine next_then ?_
    refine awpL_text htb hmz spWi_ok (fun _ => false) rfl rfl rfl ?_; intro m' e' l' ob h; simp only [zE0, zE1, zE2, zE3, zE4, zE5, evp, evx, ev1, evLoad, evStore, evBin, isBoolK, forall_const, z38, tb, Nat.reduceAdd, Nat.reduceSub, Nat.reduceMul, Nat.reduceEqDiff, Nat.reduceLeDiff, Nat.reduceLT, Nat.reduceBEq, Nat.reduceBNe, ↓reduceIte, reduceIte, svA, spWi, membersS, withoutS, mpF_nil, wF_nil, cF_nil] at h; obtain ⟨rfl, rfl, rfl, rfl⟩ := h; refine ⟨?_, ?_⟩
    · first | ((with_reducible refine Ob.mk ?_); first | exact trivial | (intros; omega) | ((repeat' first | apply And.intro | (intro hg; have hg' := hg; try simp only [zH] at hg')) <;> first | (with_reducible exact True.intro) | assumption | omega | (simp only [zH]; omega))) | skip
    repeat' first
      | with_reducible first | refine awp_seq ?_ | refine awp_block ?_ | refine next_then ?_ | refine next_block ?_ | refine exit_then ?_ | refine ret_then ?_ | refine ret_block ?_ | refine exit_here ?_ | refine awp_exit ?_ | refine awp_ret ?_ | refine awp_skip ?_ | refine awp_label ?_ | refine next_noGoto ?_ | refine ret_noGoto ?_ | refine exit_noGoto ?_ | refine awp_scope ?_
      | ((with_reducible refine exit_past ?_ ?_); exact rfl)
      | ((with_reducible refine isCond ?_); refine awp_condO rfl ?_ ?_ <;> intro hb <;> (try simp only [zH] at hb))
      | ((with_reducible refine isRegS 5 ?_ ?_); (· exact rfl); (first | refine awp_textM htb hmz spWi_ok (fun _ => false) rfl rfl ?_ | refine awp_drawM hmo htb hmz spWi_ok (fun _ => false) rfl rfl (by kernel_rfl) ?_); intro m' e' l' ob h; simp only [zE0, zE1, zE2, zE3, zE4, zE5, evp, evx, ev1, evLoad, evStore, evBin, isBoolK, forall_const, z38, tb, Nat.reduceAdd, Nat.reduceSub, Nat.reduceMul, Nat.reduceEqDiff, Nat.reduceLeDiff, Nat.reduceLT, Nat.reduceBEq, Nat.reduceBNe, ↓reduceIte, reduceIte, svA, spWi, membersS, withoutS, mpF_nil, wF_nil, cF_nil] at h; obtain ⟨rfl, rfl, rfl, rfl⟩ := h; refine ⟨?_, ?_⟩)
      | ((with_reducible refine Ob.mk ?_); first | exact trivial | (intros; omega) | ((repeat' first | apply And.intro | (intro hg; have hg' := hg; try simp only [zH] at hg')) <;> first | (with_reducible exact True.intro) | assumption | omega | (simp only [zH]; omega)))
    · refine retP ?_
      refine ⟨_, _, rfl, rfl, fun k hk => by rw [List.mem_singleton.1 hk]; rfl, (by show List.Nodup [5]; decide), by show 5 ≤ 18; omega, gq_of ⟨5, resV [], [(0, some (.box (svA o p x (backL x) (t.left - 1) 1 2))), (1, some (.ints t.W)), (2, some (.ints t.C)), (3, some (.box (.own 0))), (4, some (.box (.fn 43 (.cons (.own 3) (.cons (.own 4) .nil)))))]⟩ [] ⟨_, _, _, hR _ _ _ (.done hb hlp), rfl⟩ rfl (imp_eq rfl) ?_⟩
      simp only [grR, zE0, zE1, zE2, zE3, zE4, zE5, evp, evx, ev1, evLoad, evStore, evBin, isBoolK, forall_const, z38, tb, Nat.reduceAdd, Nat.reduceSub, Nat.reduceMul, Nat.reduceEqDiff, Nat.reduceLeDiff, Nat.reduceLT, Nat.reduceBEq, Nat.reduceBNe, ↓reduceIte, reduceIte, svA, spWi, membersS, withoutS, mpF_nil, wF_nil, cF_nil]
    have htp : 0 ≤ tpP p t.K := hb
    have htl : (tpU p t.K).length = o.length := tpU_len.trans hlK
    refine awp_cut ([_, _, _, _, _]) ([_]) rfl rfl ?_
    refine awpL_text htb hmz spWi_ok (fun _ => false) rfl rfl rfl ?_; intro m' e' l' ob h; simp only [zE0, zE1, zE2, zE3, zE4, zE5, evp, evx, ev1, evLoad, evStore, evBin, isBoolK, forall_const, z38, tb, Nat.reduceAdd, Nat.reduceSub, Nat.reduceMul, Nat.reduceEqDiff, Nat.reduceLeDiff, Nat.reduceLT, Nat.reduceBEq, Nat.reduceBNe, ↓reduceIte, reduceIte, svA, spWi, membersS, withoutS, mpF_nil, wF_nil, cF_nil] at h; obtain ⟨rfl, rfl, rfl, rfl⟩ := h; refine ⟨?_, next_then ?_⟩
    · first | ((with_reducible refine Ob.mk ?_); first | exact trivial | (intros; omega) | ((repeat' first | apply And.intro | (intro hg; have hg' := hg; try simp only [zH] at hg')) <;> first | (with_reducible exact True.intro) | assumption | omega | (simp only [zH]; omega))) | skip
    refine awpL_callG ([0, 1, 2, 23, 22]) (attract1_fg (o := o) (p := p) (x := x) (left := t.left - 1) (pl := tpP p t.K % 2) (to := tpU p t.K) (l := t.K) (W := fun _ => t.W) (C := fun _ => t.C) (E := fun L => (mpF L).1) (T := fun L => (mpF L).2) hV htl hlK (fun u hu => by have := (kp_mem (by omega)).1 hu; rw [tpU_getD, Bool.and_eq_true] at this; exact this.1) hw.tr (fun L v w hv => by simp only [mpF_snoc]; exact take1_fg)) rfl rfl rfl rfl rfl rfl rfl rfl rfl (by simp only [rinR, rhoC, zE0, zE1, zE2, zE3, zE4, zE5, evp, evx, ev1, evLoad, evStore, evBin, isBoolK, forall_const, z38, tb, Nat.reduceAdd, Nat.reduceSub, Nat.reduceMul, Nat.reduceEqDiff, Nat.reduceLeDiff, Nat.reduceLT, Nat.reduceBEq, Nat.reduceBNe, ↓reduceIte, reduceIte, svA, spWi, membersS, withoutS, mpF_nil, wF_nil, cF_nil]) ?_; intro gm gv gr hq m' e' l' h; obtain ⟨L, es, hAQ, hq⟩ := hq; simp only [GR.mk.injEq] at hq; obtain ⟨rfl, rfl, rfl⟩ := hq; simp only [rhoC, outR, renR, dels, zE0, zE1, zE2, zE3, zE4, zE5, evp, evx, ev1, evLoad, evStore, evBin, isBoolK, forall_const, z38, tb, Nat.reduceAdd, Nat.reduceSub, Nat.reduceMul, Nat.reduceEqDiff, Nat.reduceLeDiff, Nat.reduceLT, Nat.reduceBEq, Nat.reduceBNe, ↓reduceIte, reduceIte, svA, spWi, membersS, withoutS, mpF_nil, wF_nil, cF_nil] at h; obtain ⟨rfl, rfl, rfl⟩ := h; refine next_then ?_
    refine awpL_text htb hmz spWi_ok (fun _ => false) rfl rfl rfl ?_; intro m' e' l' ob h; simp only [zE0, zE1, zE2, zE3, zE4, zE5, evp, evx, ev1, evLoad, evStore, evBin, isBoolK, forall_const, z38, tb, Nat.reduceAdd, Nat.reduceSub, Nat.reduceMul, Nat.reduceEqDiff, Nat.reduceLeDiff, Nat.reduceLT, Nat.reduceBEq, Nat.reduceBNe, ↓reduceIte, reduceIte, svA, spWi, membersS, withoutS, mpF_nil, wF_nil, cF_nil] at h; obtain ⟨rfl, rfl, rfl, rfl⟩ := h; refine ⟨?_, ?_⟩
    · first | ((with_reducible refine Ob.mk ?_); first | exact trivial | (intros; omega) | ((repeat' first | apply And.intro | (intro hg; have hg' := hg; try simp only [zH] at hg')) <;> first | (with_reducible exact True.intro) | assumption | omega | (simp only [zH]; omega))) | skip
    have hne : ∃ v, (tpU p t.K).getD v false = true := by
      obtain ⟨v, h1, h2⟩ := tp_at htp
      exact ⟨v, by rw [tpU_getD, (kp_mem (Nat.le_refl _)).1 h1, h2]; simp⟩
    obtain ⟨hsT, hsk⟩ := AQ_rest (g := ⟨o, p, x⟩) hlK (by show (tpU p t.K).length ≤ o.length; omega) hAQ hne hw.tr
    dsimp only at hsT hsk
    have hal : (atB (tpU p t.K) o.length L).length = o.length := atB_len
    obtain ⟨sub, hsub⟩ : ∃ l, l = woL t.K (atB (tpU p t.K) o.length L) := ⟨_, rfl⟩
    have hsl : sub.length = o.length := by rw [hsub]; exact woL_len.trans hlK
    have hsI : ZI ⟨o, p, x⟩ ⟨sub, t.W, t.C, t.left - 1⟩ := ⟨hsl, hlW, hlC, by dsimp only; omega, by dsimp only; omega, by rw [hsub]; exact hsT⟩
    have hsK : cntZ o.length (fun v => sub.getD v false) < k := by rw [hsub]; omega
    repeat' first
      | with_reducible first | refine awp_seq ?_ | refine awp_block ?_ | refine next_then ?_ | refine next_block ?_ | refine exit_then ?_ | refine ret_then ?_ | refine ret_block ?_ | refine exit_here ?_ | refine awp_exit ?_ | refine awp_ret ?_ | refine awp_skip ?_ | refine awp_label ?_ | refine next_noGoto ?_ | refine ret_noGoto ?_ | refine exit_noGoto ?_ | refine awp_scope ?_
      | ((with_reducible refine exit_past ?_ ?_); exact rfl)
      | ((with_reducible refine isCond ?_); refine awp_condO rfl ?_ ?_ <;> intro hb <;> (try simp only [zH] at hb))
      | ((with_reducible refine isRegS 7 ?_ ?_); (· exact rfl); (first | refine awp_textM htb hmz spWi_ok (fun _ => false) rfl rfl ?_ | refine awp_drawM hmo htb hmz spWi_ok (fun _ => false) rfl rfl (by kernel_rfl) ?_); intro m' e' l' ob h; simp only [zE0, zE1, zE2, zE3, zE4, zE5, evp, evx, ev1, evLoad, evStore, evBin, isBoolK, forall_const, z38, tb, Nat.reduceAdd, Nat.reduceSub, Nat.reduceMul, Nat.reduceEqDiff, Nat.reduceLeDiff, Nat.reduceLT, Nat.reduceBEq, Nat.reduceBNe, ↓reduceIte, reduceIte, svA, spWi, membersS, withoutS, mpF_nil, wF_nil, cF_nil] at h; obtain ⟨rfl, rfl, rfl, rfl⟩ := h; refine ⟨?_, ?_⟩)
      | ((with_reducible refine Ob.mk ?_); first | exact trivial | (intros; omega) | ((repeat' first | apply And.intro | (intro hg; have hg' := hg; try simp only [zH] at hg')) <;> first | (with_reducible exact True.intro) | assumption | omega | (simp only [zH]; omega)))
    rw [← hsub]
    refine awp_cut ([_, _]) ([]) rfl rfl ?_
    refine awpL_text htb hmz spWi_ok (fun _ => false) rfl rfl rfl ?_; intro m' e' l' ob h; simp only [zE0, zE1, zE2, zE3, zE4, zE5, evp, evx, ev1, evLoad, evStore, evBin, isBoolK, forall_const, z38, tb, Nat.reduceAdd, Nat.reduceSub, Nat.reduceMul, Nat.reduceEqDiff, Nat.reduceLeDiff, Nat.reduceLT, Nat.reduceBEq, Nat.reduceBNe, ↓reduceIte, reduceIte, svA, spWi, membersS, withoutS, mpF_nil, wF_nil, cF_nil] at h; obtain ⟨rfl, rfl, rfl, rfl⟩ := h; refine ⟨?_, next_then ?_⟩
    · first | ((with_reducible refine Ob.mk ?_); first | exact trivial | (intros; omega) | ((repeat' first | apply And.intro | (intro hg; have hg' := hg; try simp only [zH] at hg')) <;> first | (with_reducible exact True.intro) | assumption | omega | (simp only [zH]; omega))) | skip
    refine awpL_callP ([0, 1, 2, 3, 4]) (within_fp hV k ⟨sub, t.W, t.C, t.left - 1⟩ hsI hsK) rfl rfl rfl rfl rfl rfl rfl rfl rfl (by simp only [rinR, rhoC, zE0, zE1, zE2, zE3, zE4, zE5, evp, evx, ev1, evLoad, evStore, evBin, isBoolK, forall_const, z38, tb, Nat.reduceAdd, Nat.reduceSub, Nat.reduceMul, Nat.reduceEqDiff, Nat.reduceLeDiff, Nat.reduceLT, Nat.reduceBEq, Nat.reduceBNe, ↓reduceIte, reduceIte, svA, spWi, membersS, withoutS, mpF_nil, wF_nil, cF_nil]) ?_ ?pan2; intro gm gv gr hq m' e' l' h; obtain ⟨W1, C1, left1, hZ, hq⟩ := hq; simp only [GR.mk.injEq] at hq; obtain ⟨rfl, rfl, rfl⟩ := hq; simp only [rhoC, outR, renR, dels, zE0, zE1, zE2, zE3, zE4, zE5, evp, evx, ev1, evLoad, evStore, evBin, isBoolK, forall_const, z38, tb, Nat.reduceAdd, Nat.reduceSub, Nat.reduceMul, Nat.reduceEqDiff, Nat.reduceLeDiff, Nat.reduceLT, Nat.reduceBEq, Nat.reduceBNe, ↓reduceIte, reduceIte, svA, spWi, membersS, withoutS, mpF_nil, wF_nil, cF_nil] at h; obtain ⟨rfl, rfl, rfl⟩ := h; refine next_then ?_
    case pan2 =>
      rintro c ⟨rfl, h0⟩
      repeat' first | with_reducible refine pan_then ?_ | with_reducible refine pan_block ?_ | with_reducible refine pan_noGoto ?_
      exact panP (⟨rfl, hP (.sub htp hlp hAQ (hsub ▸ h0))⟩) (fun k hk => by rw [List.mem_singleton.1 hk]; rfl) (by show List.Nodup [5]; decide)
    refine awpL_text htb hmz spWi_ok (fun _ => false) rfl rfl rfl ?_; intro m' e' l' ob h; simp only [zE0, zE1, zE2, zE3, zE4, zE5, evp, evx, ev1, evLoad, evStore, evBin, isBoolK, forall_const, z38, tb, Nat.reduceAdd, Nat.reduceSub, Nat.reduceMul, Nat.reduceEqDiff, Nat.reduceLeDiff, Nat.reduceLT, Nat.reduceBEq, Nat.reduceBNe, ↓reduceIte, reduceIte, svA, spWi, membersS, withoutS, mpF_nil, wF_nil, cF_nil] at h; obtain ⟨rfl, rfl, rfl, rfl⟩ := h; refine ⟨?_, ?_⟩
    · first | ((with_reducible refine Ob.mk ?_); first | exact trivial | (intros; omega) | ((repeat' first | apply And.intro | (intro hg; have hg' := hg; try simp only [zH] at hg')) <;> first | (with_reducible exact True.intro) | assumption | omega | (simp only [zH]; omega))) | skip
    obtain ⟨hW1, hC1, hl1a, hl1b⟩ := ZR_facts hZ
    dsimp only at hW1 hC1 hl1b
    repeat' first
      | with_reducible first | refine awp_seq ?_ | refine awp_block ?_ | refine next_then ?_ | refine next_block ?_ | refine exit_then ?_ | refine ret_then ?_ | refine ret_block ?_ | refine exit_here ?_ | refine awp_exit ?_ | refine awp_ret ?_ | refine awp_skip ?_ | refine awp_label ?_ | refine next_noGoto ?_ | refine ret_noGoto ?_ | refine exit_noGoto ?_ | refine awp_scope ?_
      | ((with_reducible refine exit_past ?_ ?_); exact rfl)
      | ((with_reducible refine isCond ?_); refine awp_condO rfl ?_ ?_ <;> intro hb <;> (try simp only [zH] at hb))
      | ((with_reducible refine isRegS 14 ?_ ?_); (· exact rfl); (first | refine awp_textM htb hmz spWi_ok (fun _ => false) rfl rfl ?_ | refine awp_drawM hmo htb hmz spWi_ok (fun _ => false) rfl rfl (by kernel_rfl) ?_); intro m' e' l' ob h; simp only [zE0, zE1, zE2, zE3, zE4, zE5, evp, evx, ev1, evLoad, evStore, evBin, isBoolK, forall_const, z38, tb, Nat.reduceAdd, Nat.reduceSub, Nat.reduceMul, Nat.reduceEqDiff, Nat.reduceLeDiff, Nat.reduceLT, Nat.reduceBEq, Nat.reduceBNe, ↓reduceIte, reduceIte, svA, spWi, membersS, withoutS, mpF_nil, wF_nil, cF_nil] at h; obtain ⟨rfl, rfl, rfl, rfl⟩ := h; refine ⟨?_, ?_⟩)
      | ((with_reducible refine Ob.mk ?_); first | exact trivial | (intros; omega) | ((repeat' first | apply And.intro | (intro hg; have hg' := hg; try simp only [zH] at hg')) <;> first | (with_reducible exact True.intro) | assumption | omega | (simp only [zH]; omega)))
    obtain ⟨pl, hpl2⟩ : ∃ q, q = tpP p t.K % 2 := ⟨_, rfl⟩
    rw [← hpl2]
    have hp01 : pl = 0 ∨ pl = 1 := by omega
    obtain ⟨F, hF⟩ : ∃ F : Nat → List Bool, F = stB sub fun v => !decide (W1.getD v 0 = pl) := ⟨_, rfl⟩
    obtain ⟨A, hA⟩ : ∃ A : Nat → Bool, A = fun i => ((kp sub sub.length).take i).any fun v => !decide (W1.getD v 0 = pl) := ⟨_, rfl⟩
    have hFl : ∀ i, (F i).length = sub.length := fun i => by rw [hF]; exact stB_len
    have hFn : ∀ i, i < (kp sub sub.length).length → (F i).set ((kp sub sub.length).getD i 0) (!decide (W1.getD ((kp sub sub.length).getD i 0) 0 = pl)) = F (i + 1) := fun i h => by rw [hF]; exact stB_next h
    have hAn : ∀ i, i < (kp sub sub.length).length → (A i || !decide (W1.getD ((kp sub sub.length).getD i 0) 0 = pl)) = A (i + 1) := fun i h => by
      rw [hA]
      show _ = List.any (List.take (i + 1) _) _
      rw [take1 (d := 0) h, List.any_append, List.any_cons, List.any_nil, Bool.or_false]
    refine awp_leC ⟨46, [(45, .fn 41 (.cons (.rop (.roB sub)) .nil)), (12, .own 42), (11, .own 40), (10, .roB sub), (9, .roB (atB (tpU p t.K) o.length L)), (8, .own 23), (7, .own 20), (4, .roB (tpU p t.K)), (0, .roB t.K), (1, .own 3), (2, .own 4)], [(42, some (.box (.bool (A 0)))), (40, some (.box (.own 39))), (39, some (.bools (F 0))), (20, some (.box (.int .i64 pl))), (5, some .dfr), (22, some (.mp (mpF L).fst (mpF L).snd)), (23, some (.box (.own 22))), (0, some (.box (svA o p x (backL x) left1 1 2))), (1, some (.ints W1)), (2, some (.ints C1)), (3, some (.box (.own 0))), (4, some (.box (.fn 43 (.cons (.own 3) (.cons (.own 4) .nil)))))], [5]⟩ [] ?_ ?_
    · (refine ⟨rfl, ?_, ?_⟩ <;> simp only [zE0, zE1, zE2, zE3, zE4, zE5, evp, evx, ev1, evLoad, evStore, evBin, isBoolK, forall_const, z38, tb, Nat.reduceAdd, Nat.reduceSub, Nat.reduceMul, Nat.reduceEqDiff, Nat.reduceLeDiff, Nat.reduceLT, Nat.reduceBEq, Nat.reduceBNe, ↓reduceIte, reduceIte, svA, spWi, membersS, withoutS, mpF_nil, wF_nil, cF_nil, zI])
      rw [hA, hF]
      exact ⟨rfl, by rw [hlK, ← hsl]; exact stB_zero⟩
    refine awp_rangeV (m := 46) (M := 46) (fun i => i ≤ (kp sub sub.length).length) (fun _ : Nat => False) (fun i => (((kp sub sub.length).getD i 0 : Nat) : Int)) (fun i => i < (kp sub sub.length).length) (fun i i' => i' = i + 1) (fun i => i = 0) (fun i => i = (kp sub sub.length).length) .ret (fun i => [(42, some (.box (.bool (A i)))), (40, some (.box (.own 39))), (39, some (.bools (F i))), (20, some (.box (.int .i64 pl))), (5, some .dfr), (22, some (.mp (mpF L).fst (mpF L).snd)), (23, some (.box (.own 22))), (0, some (.box (svA o p x (backL x) left1 1 2))), (1, some (.ints W1)), (2, some (.ints C1)), (3, some (.box (.own 0))), (4, some (.box (.fn 43 (.cons (.own 3) (.cons (.own 4) .nil)))))]) [5] 0 (members1_iter sub _ _ id fun t h => h) (Nat.zero_le _) rfl rfl rfl rfl rfl rfl rfl (fun k hk => by rw [List.mem_singleton.1 hk]; rfl) (fun t k _ _ hk => sV_mem (M := 46) (l := [(42, some (.box (.bool (A t)))), (40, some (.box (.own 39))), (39, some (.bools (F t))), (20, some (.box (.int .i64 pl))), (5, some .dfr), (22, some (.mp (mpF L).fst (mpF L).snd)), (23, some (.box (.own 22))), (0, some (.box (svA o p x _ _ 1 2))), (1, some (.ints W1)), (2, some (.ints C1)), (3, some (.box (.own 0))), (4, some (.box (.fn 43 (.cons (.own 3) (.cons (.own 4) .nil)))))]) ⟨⟨rfl, rfl⟩, ⟨rfl, rfl⟩, ⟨rfl, trivial⟩, ⟨rfl, rfl⟩, ⟨rfl, trivial⟩, ⟨rfl, trivial⟩, ⟨rfl, rfl⟩, ⟨rfl, rfl⟩, ⟨rfl, trivial⟩, ⟨rfl, trivial⟩, ⟨rfl, rfl⟩, ⟨rfl, rfl⟩, trivial⟩ k _ hk) ?_ ?_ ?_
    · intro lp i hi hg
      obtain ⟨hv1, hv2⟩ := kp_at' hg
      have hFn1 := hFn i hg
      have hAn1 := hAn i hg
      generalize hvv : (kp sub sub.length).getD i 0 = v at *
      have hFi := hFl i
      have hgs : ((F i).set v (!decide (W1.getD v 0 = pl))).getD v false = !decide (W1.getD v 0 = pl) := by simp [List.getD_eq_getElem?_getD, hFi, hv1]
      first | (refine awp_textM htb hmz spWi_ok (fun _ => false) rfl rfl ?_; intro m' e' l' ob h; simp only [zE0, zE1, zE2, zE3, zE4, zE5, evp, evx, ev1, evLoad, evStore, evBin, isBoolK, forall_const, z38, tb, Nat.reduceAdd, Nat.reduceSub, Nat.reduceMul, Nat.reduceEqDiff, Nat.reduceLeDiff, Nat.reduceLT, Nat.reduceBEq, Nat.reduceBNe, ↓reduceIte, reduceIte, svA, spWi, membersS, withoutS, mpF_nil, wF_nil, cF_nil] at h; obtain ⟨rfl, rfl, rfl, rfl⟩ := h; refine ⟨?_, ?_⟩)
            | (refine awp_drawM hmo htb hmz spWi_ok (fun _ => false) rfl rfl (by kernel_rfl) ?_; intro m' e' l' ob h; simp only [zE0, zE1, zE2, zE3, zE4, zE5, evp, evx, ev1, evLoad, evStore, evBin, isBoolK, forall_const, z38, tb, Nat.reduceAdd, Nat.reduceSub, Nat.reduceMul, Nat.reduceEqDiff, Nat.reduceLeDiff, Nat.reduceLT, Nat.reduceBEq, Nat.reduceBNe, ↓reduceIte, reduceIte, svA, spWi, membersS, withoutS, mpF_nil, wF_nil, cF_nil] at h; obtain ⟨rfl, rfl, rfl, rfl⟩ := h; refine ⟨?_, ?_⟩)
      · first | ((with_reducible refine Ob.mk ?_); first | exact trivial | (intros; omega) | ((repeat' first | apply And.intro | (intro hg; have hg' := hg; try simp only [zH] at hg')) <;> first | assumption | omega | (simp only [zH]; omega))) | skip
      refine ⟨rfl, ?_⟩
      repeat' first
        | with_reducible first | refine awp_seq ?_ | refine awp_block ?_ | refine next_then ?_ | refine next_block ?_ | refine exit_then ?_ | refine ret_then ?_ | refine ret_block ?_ | refine exit_here ?_ | refine awp_exit ?_ | refine awp_ret ?_ | refine awp_skip ?_ | refine awp_label ?_ | refine next_noGoto ?_ | refine ret_noGoto ?_ | refine exit_noGoto ?_ | refine awp_scope ?_
        | ((with_reducible refine exit_past ?_ ?_); exact rfl)
        | ((with_reducible refine isCond ?_); refine awp_condO rfl ?_ ?_ <;> intro hb <;> (try simp only [zH] at hb))
        | ((with_reducible refine isReg ?_); (first | refine awp_textM htb hmz spWi_ok (fun _ => false) rfl rfl ?_ | refine awp_drawM hmo htb hmz spWi_ok (fun _ => false) rfl rfl (by kernel_rfl) ?_); intro m' e' l' ob h; simp only [zE0, zE1, zE2, zE3, zE4, zE5, evp, evx, ev1, evLoad, evStore, evBin, isBoolK, forall_const, z38, tb, Nat.reduceAdd, Nat.reduceSub, Nat.reduceMul, Nat.reduceEqDiff, Nat.reduceLeDiff, Nat.reduceLT, Nat.reduceBEq, Nat.reduceBNe, ↓reduceIte, reduceIte, svA, spWi, membersS, withoutS, mpF_nil, wF_nil, cF_nil] at h; obtain ⟨rfl, rfl, rfl, rfl⟩ := h; refine ⟨?_, ?_⟩)
        | ((with_reducible refine Ob.mk ?_); first | exact trivial | (intros; omega) | ((repeat' first | apply And.intro | (intro hg; have hg' := hg; try simp only [zH] at hg')) <;> first | (with_reducible exact True.intro) | assumption | omega | (simp only [zH]; omega)))
      refine ⟨_, i + 1, [], rfl, ?_, .inl ⟨rfl, hg, rfl⟩⟩
      (refine ⟨rfl, ?_, ?_⟩ <;> simp only [zE0, zE1, zE2, zE3, zE4, zE5, evp, evx, ev1, evLoad, evStore, evBin, isBoolK, forall_const, z38, tb, Nat.reduceAdd, Nat.reduceSub, Nat.reduceMul, Nat.reduceEqDiff, Nat.reduceLeDiff, Nat.reduceLT, Nat.reduceBEq, Nat.reduceBNe, ↓reduceIte, reduceIte, svA, spWi, membersS, withoutS, mpF_nil, wF_nil, cF_nil, zI])
      rw [hgs]
      exact ⟨hAn1, hFn1⟩
    · intro i hi hfin
      have hfin : i = (kp sub sub.length).length := hfin
      repeat' first
        | with_reducible first | refine awp_seq ?_ | refine awp_block ?_ | refine next_then ?_ | refine next_block ?_ | refine exit_then ?_ | refine ret_then ?_ | refine ret_block ?_ | refine exit_here ?_ | refine awp_exit ?_ | refine awp_ret ?_ | refine awp_skip ?_ | refine awp_label ?_ | refine next_noGoto ?_ | refine ret_noGoto ?_ | refine exit_noGoto ?_ | refine awp_scope ?_
        | ((with_reducible refine exit_past ?_ ?_); exact rfl)
        | ((with_reducible refine isCond ?_); refine awp_condO rfl ?_ ?_ <;> intro hb <;> (try simp only [zH] at hb))
        | ((with_reducible refine isRegS 14 ?_ ?_); (· exact rfl); (first | refine awp_textM htb hmz spWi_ok (fun _ => false) rfl rfl ?_ | refine awp_drawM hmo htb hmz spWi_ok (fun _ => false) rfl rfl (by kernel_rfl) ?_); intro m' e' l' ob h; simp only [zE0, zE1, zE2, zE3, zE4, zE5, evp, evx, ev1, evLoad, evStore, evBin, isBoolK, forall_const, z38, tb, Nat.reduceAdd, Nat.reduceSub, Nat.reduceMul, Nat.reduceEqDiff, Nat.reduceLeDiff, Nat.reduceLT, Nat.reduceBEq, Nat.reduceBNe, ↓reduceIte, reduceIte, svA, spWi, membersS, withoutS, mpF_nil, wF_nil, cF_nil] at h; obtain ⟨rfl, rfl, rfl, rfl⟩ := h; refine ⟨?_, ?_⟩)
        | ((with_reducible refine Ob.mk ?_); first | exact trivial | (intros; omega) | ((repeat' first | apply And.intro | (intro hg; have hg' := hg; try simp only [zH] at hg')) <;> first | (with_reducible exact True.intro) | assumption | omega | (simp only [zH]; omega)))
      refine awp_joinM 46 5 rfl rfl rfl rfl ?_
      simp only [dels, zE0, zE1, zE2, zE3, zE4, zE5, evp, evx, ev1, evLoad, evStore, evBin, isBoolK, forall_const, z38, tb, Nat.reduceAdd, Nat.reduceSub, Nat.reduceMul, Nat.reduceEqDiff, Nat.reduceLeDiff, Nat.reduceLT, Nat.reduceBEq, Nat.reduceBNe, ↓reduceIte, reduceIte, svA, spWi, membersS, withoutS, mpF_nil, wF_nil, cF_nil]
      have hFe : F i = loL sub W1 pl := by rw [hF, hfin, stB_all]; rfl
      have hAe : ∀ b, A i = b → (kp sub sub.length).any (fun v => !decide (W1.getD v 0 = pl)) = b := fun b h => by
        rw [hA, hfin] at h
        have h : List.any (List.take _ _) _ = b := h
        rwa [List.take_length] at h
      have h6 : ∀ v, v < o.length → (x.getD v []).length ≤ 64 := fun v h => by
        obtain ⟨⟨a1, a2, a3, a4, _, a6⟩, _⟩ := hpos v (by simp only [Gm.n]; omega)
        exact a6
      have hrb : ∀ v, v < o.length → ∀ j, j < (x.getD v []).length → 0 ≤ (x.getD v []).getD j 0 ∧ (x.getD v []).getD j 0 < (o.length : Int) := fun v h j hj => by
        obtain ⟨_, hr⟩ := hpos v (by simp only [Gm.n]; omega)
        exact ⟨(hr j hj).1, (hr j hj).2.1⟩
      rw [hFe]
      clear hFe hF hFl hFn hAn F
      repeat' first
        | with_reducible first | refine awp_seq ?_ | refine awp_block ?_ | refine next_then ?_ | refine next_block ?_ | refine exit_then ?_ | refine ret_then ?_ | refine ret_block ?_ | refine exit_here ?_ | refine awp_exit ?_ | refine awp_ret ?_ | refine awp_skip ?_ | refine awp_label ?_ | refine next_noGoto ?_ | refine ret_noGoto ?_ | refine exit_noGoto ?_ | refine awp_scope ?_
        | ((with_reducible refine exit_past ?_ ?_); exact rfl)
        | ((with_reducible refine isCond ?_); refine awp_condO rfl ?_ ?_ <;> intro hb <;> (try simp only [zH] at hb))
        | ((with_reducible refine isRegS 15 ?_ ?_); (· exact rfl); (with_reducible refine isRegS 16 ?_ ?_); (· exact rfl); (first | refine awp_textM htb hmz spWi_ok (fun _ => false) rfl rfl ?_ | refine awp_drawM hmo htb hmz spWi_ok (fun _ => false) rfl rfl (by kernel_rfl) ?_); intro m' e' l' ob h; simp only [zE0, zE1, zE2, zE3, zE4, zE5, evp, evx, ev1, evLoad, evStore, evBin, isBoolK, forall_const, z38, tb, Nat.reduceAdd, Nat.reduceSub, Nat.reduceMul, Nat.reduceEqDiff, Nat.reduceLeDiff, Nat.reduceLT, Nat.reduceBEq, Nat.reduceBNe, ↓reduceIte, reduceIte, svA, spWi, membersS, withoutS, mpF_nil, wF_nil, cF_nil] at h; obtain ⟨rfl, rfl, rfl, rfl⟩ := h; refine ⟨?_, ?_⟩)
        | ((with_reducible refine Ob.mk ?_); first | exact trivial | (intros; omega) | ((repeat' first | apply And.intro | (intro hg; have hg' := hg; try simp only [zH] at hg')) <;> first | (with_reducible exact True.intro) | assumption | omega | (simp only [zH]; omega)))
      · have hall : ∀ v, v ∈ kp sub o.length → W1.getD v 0 = pl := fun v hv => by
          have h1 := List.any_eq_false.1 (hAe _ hb) v (by rw [hsl]; exact hv)
          simpa using h1
        refine awp_cut ([_, _, _, _, _, _]) ([]) rfl rfl ?_
        refine awpL_text htb hmz spWi_ok (fun _ => false) rfl rfl rfl ?_; intro m' e' l' ob h; simp only [zE0, zE1, zE2, zE3, zE4, zE5, evp, evx, ev1, evLoad, evStore, evBin, isBoolK, forall_const, z38, tb, Nat.reduceAdd, Nat.reduceSub, Nat.reduceMul, Nat.reduceEqDiff, Nat.reduceLeDiff, Nat.reduceLT, Nat.reduceBEq, Nat.reduceBNe, ↓reduceIte, reduceIte, svA, spWi, membersS, withoutS, mpF_nil, wF_nil, cF_nil] at h; obtain ⟨rfl, rfl, rfl, rfl⟩ := h; refine ⟨?_, next_then ?_⟩
        · first | ((with_reducible refine Ob.mk ?_); first | exact trivial | (intros; omega) | ((repeat' first | apply And.intro | (intro hg; have hg' := hg; try simp only [zH] at hg')) <;> first | (with_reducible exact True.intro) | assumption | omega | (simp only [zH]; omega))) | skip
        refine awpL_callG ([0, 1, 2, 22]) (settle_fg (o := o) (p := p) (x := x) (B := backL x) (left := left1) (W := W1) (C := C1) (a := atB (tpU p t.K) o.length L) (u := tpU p t.K) (l := t.K) (pl := pl) (es := (mpF L).1) (c := (mpF L).2) hn hxl hal htl hlK (by omega) (by omega) hrb h6) rfl rfl rfl rfl rfl rfl rfl rfl rfl (by simp only [rinR, rhoC, zE0, zE1, zE2, zE3, zE4, zE5, evp, evx, ev1, evLoad, evStore, evBin, isBoolK, forall_const, z38, tb, Nat.reduceAdd, Nat.reduceSub, Nat.reduceMul, Nat.reduceEqDiff, Nat.reduceLeDiff, Nat.reduceLT, Nat.reduceBEq, Nat.reduceBNe, ↓reduceIte, reduceIte, svA, spWi, membersS, withoutS, mpF_nil, wF_nil, cF_nil]) ?_; intro gm gv gr hq m' e' l' h; simp only [GR.mk.injEq] at hq; obtain ⟨rfl, rfl, rfl⟩ := hq; simp only [rhoC, outR, renR, dels, zE0, zE1, zE2, zE3, zE4, zE5, evp, evx, ev1, evLoad, evStore, evBin, isBoolK, forall_const, z38, tb, Nat.reduceAdd, Nat.reduceSub, Nat.reduceMul, Nat.reduceEqDiff, Nat.reduceLeDiff, Nat.reduceLT, Nat.reduceBEq, Nat.reduceBNe, ↓reduceIte, reduceIte, svA, spWi, membersS, withoutS, mpF_nil, wF_nil, cF_nil] at h; obtain ⟨rfl, rfl, rfl⟩ := h; refine next_then ?_
        refine awpL_text htb hmz spWi_ok (fun _ => false) rfl rfl rfl ?_; intro m' e' l' ob h; simp only [zE0, zE1, zE2, zE3, zE4, zE5, evp, evx, ev1, evLoad, evStore, evBin, isBoolK, forall_const, z38, tb, Nat.reduceAdd, Nat.reduceSub, Nat.reduceMul, Nat.reduceEqDiff, Nat.reduceLeDiff, Nat.reduceLT, Nat.reduceBEq, Nat.reduceBNe, ↓reduceIte, reduceIte, svA, spWi, membersS, withoutS, mpF_nil, wF_nil, cF_nil] at h; obtain ⟨rfl, rfl, rfl, rfl⟩ := h; refine ⟨?_, ?_⟩
        · first | ((with_reducible refine Ob.mk ?_); first | exact trivial | (intros; omega) | ((repeat' first | apply And.intro | (intro hg; have hg' := hg; try simp only [zH] at hg')) <;> first | (with_reducible exact True.intro) | assumption | omega | (simp only [zH]; omega))) | skip
        repeat' first
          | with_reducible first | refine awp_seq ?_ | refine awp_block ?_ | refine next_then ?_ | refine next_block ?_ | refine exit_then ?_ | refine ret_then ?_ | refine ret_block ?_ | refine exit_here ?_ | refine awp_exit ?_ | refine awp_ret ?_ | refine awp_skip ?_ | refine awp_label ?_ | refine next_noGoto ?_ | refine ret_noGoto ?_ | refine exit_noGoto ?_ | refine awp_scope ?_
          | ((with_reducible refine exit_past ?_ ?_); exact rfl)
          | ((with_reducible refine isCond ?_); refine awp_condO rfl ?_ ?_ <;> intro hb <;> (try simp only [zH] at hb))
          | ((with_reducible refine isReg ?_); (first | refine awp_textM htb hmz spWi_ok (fun _ => false) rfl rfl ?_ | refine awp_drawM hmo htb hmz spWi_ok (fun _ => false) rfl rfl (by kernel_rfl) ?_); intro m' e' l' ob h; simp only [zE0, zE1, zE2, zE3, zE4, zE5, evp, evx, ev1, evLoad, evStore, evBin, isBoolK, forall_const, z38, tb, Nat.reduceAdd, Nat.reduceSub, Nat.reduceMul, Nat.reduceEqDiff, Nat.reduceLeDiff, Nat.reduceLT, Nat.reduceBEq, Nat.reduceBNe, ↓reduceIte, reduceIte, svA, spWi, membersS, withoutS, mpF_nil, wF_nil, cF_nil] at h; obtain ⟨rfl, rfl, rfl, rfl⟩ := h; refine ⟨?_, ?_⟩)
          | ((with_reducible refine Ob.mk ?_); first | exact trivial | (intros; omega) | ((repeat' first | apply And.intro | (intro hg; have hg' := hg; try simp only [zH] at hg')) <;> first | assumption | omega | (simp only [zH]; omega)))
        refine retP ?_
        refine ⟨_, _, rfl, rfl, fun k hk => by rw [List.mem_singleton.1 hk]; rfl, (by show List.Nodup [47]; decide), by show 5 ≤ 56; omega, gq_of ⟨5, resV [], [(0, some (.box (svA o p x (backL x) left1 1 2))), (1, some (.ints (fsL (fun _ => pl) (kp (atB (tpU p t.K) o.length L) o.length) W1))), (2, some (.ints (fsL (stC o x (tpU p t.K) t.K pl (mpF L).1) (kp (atB (tpU p t.K) o.length L) o.length) C1))), (3, some (.box (.own 0))), (4, some (.box (.fn 43 (.cons (.own 3) (.cons (.own 4) .nil)))))]⟩ [] ⟨_, _, _, hR _ _ _ (by rw [hpl2]; exact .all htp hlp hAQ (hsub ▸ hZ) (by rw [hsub, hpl2] at hall; exact hall)), rfl⟩ rfl (imp_eq rfl) ?_⟩
        simp only [grR, zE0, zE1, zE2, zE3, zE4, zE5, evp, evx, ev1, evLoad, evStore, evBin, isBoolK, forall_const, z38, tb, Nat.reduceAdd, Nat.reduceSub, Nat.reduceMul, Nat.reduceEqDiff, Nat.reduceLeDiff, Nat.reduceLT, Nat.reduceBEq, Nat.reduceBNe, ↓reduceIte, reduceIte, svA, spWi, membersS, withoutS, mpF_nil, wF_nil, cF_nil]
      · have hex : ∃ v, v ∈ kp sub o.length ∧ W1.getD v 0 ≠ pl := by
          obtain ⟨v, h1, h2⟩ := List.any_eq_true.1 (hAe _ hb)
          exact ⟨v, by rw [← hsl]; exact h1, by simpa using h2⟩
        refine awp_fzN 39 (.roB (loL sub W1 pl)) (by simp only [lkr_cons, lkr_nil, fzE, fzA, fzR, fzB, set1, nbeq, Nat.reduceEqDiff, decide_true, decide_false, ↓reduceIte, reduceIte, cond_true, cond_false, List.take_length, Option.some.injEq]; rfl) (by first | exact rfl | (refine ⟨?_, rfl⟩; first | rfl | (intros; rfl))) (by simp only [lkr_cons, lkr_nil, fzE, fzA, fzR, fzB, set1, nbeq, Nat.reduceEqDiff, decide_true, decide_false, ↓reduceIte, reduceIte, cond_true, cond_false, List.take_length, Option.some.injEq]; rfl) (by simp only [lkr_cons, lkr_nil, fzE, fzA, fzR, fzB, set1, nbeq, Nat.reduceEqDiff, decide_true, decide_false, ↓reduceIte, reduceIte, cond_true, cond_false, List.take_length, Option.some.injEq]; rfl) ?_
        have hll : (loL sub W1 pl).length = o.length := loL_len.trans hsl
        have hlK2 : ∀ u, u ∈ kp (loL sub W1 pl) o.length → t.K.getD u false = true := fun u hu => by
          have h1 := (kp_mem (by omega)).1 hu
          rw [loL_getD, Bool.and_eq_true] at h1
          have h2 := h1.1
          rw [hsub, woL_getD, Bool.and_eq_true] at h2
          exact h2.1
        refine awp_cut ([_, _, _, _, _, _]) ([_]) rfl rfl ?_
        refine awpL_text htb hmz spWi_ok (fun _ => false) rfl rfl rfl ?_; intro m' e' l' ob h; simp only [zE0, zE1, zE2, zE3, zE4, zE5, evp, evx, ev1, evLoad, evStore, evBin, isBoolK, forall_const, z38, tb, Nat.reduceAdd, Nat.reduceSub, Nat.reduceMul, Nat.reduceEqDiff, Nat.reduceLeDiff, Nat.reduceLT, Nat.reduceBEq, Nat.reduceBNe, ↓reduceIte, reduceIte, svA, spWi, membersS, withoutS, mpF_nil, wF_nil, cF_nil] at h; obtain ⟨rfl, rfl, rfl, rfl⟩ := h; refine ⟨?_, next_then ?_⟩
        · first | ((with_reducible refine Ob.mk ?_); first | exact trivial | (intros; omega) | ((repeat' first | apply And.intro | (intro hg; have hg' := hg; try simp only [zH] at hg')) <;> first | (with_reducible exact True.intro) | assumption | omega | (simp only [zH]; omega))) | skip
        refine awpL_callG ([0, 1, 2, 3, 20]) (attract2_fg (o := o) (p := p) (x := x) (left := left1) (pl := 1 - pl) (to := loL sub W1 pl) (l := t.K) (W := wF (1 - pl) W1) (C := cF o (1 - pl) C1) (pt := pl) hV hll hlK hlK2 hw.tr (fun L v w hv => by simp only [wF_snoc, cF_snoc]; exact take2_fg hv (wF_len.trans (by omega)) (cF_len.trans (by omega)) hp01)) rfl rfl rfl rfl rfl rfl rfl rfl rfl (by simp only [rinR, rhoC, zE0, zE1, zE2, zE3, zE4, zE5, evp, evx, ev1, evLoad, evStore, evBin, isBoolK, forall_const, z38, tb, Nat.reduceAdd, Nat.reduceSub, Nat.reduceMul, Nat.reduceEqDiff, Nat.reduceLeDiff, Nat.reduceLT, Nat.reduceBEq, Nat.reduceBNe, ↓reduceIte, reduceIte, svA, spWi, membersS, withoutS, mpF_nil, wF_nil, cF_nil]) ?_; intro gm gv gr hq m' e' l' h; obtain ⟨L2, es2, hAQ2, hq⟩ := hq; simp only [GR.mk.injEq] at hq; obtain ⟨rfl, rfl, rfl⟩ := hq; simp only [rhoC, outR, renR, dels, zE0, zE1, zE2, zE3, zE4, zE5, evp, evx, ev1, evLoad, evStore, evBin, isBoolK, forall_const, z38, tb, Nat.reduceAdd, Nat.reduceSub, Nat.reduceMul, Nat.reduceEqDiff, Nat.reduceLeDiff, Nat.reduceLT, Nat.reduceBEq, Nat.reduceBNe, ↓reduceIte, reduceIte, svA, spWi, membersS, withoutS, mpF_nil, wF_nil, cF_nil] at h; obtain ⟨rfl, rfl, rfl⟩ := h; refine next_then ?_
        refine awpL_text htb hmz spWi_ok (fun _ => false) rfl rfl rfl ?_; intro m' e' l' ob h; simp only [zE0, zE1, zE2, zE3, zE4, zE5, evp, evx, ev1, evLoad, evStore, evBin, isBoolK, forall_const, z38, tb, Nat.reduceAdd, Nat.reduceSub, Nat.reduceMul, Nat.reduceEqDiff, Nat.reduceLeDiff, Nat.reduceLT, Nat.reduceBEq, Nat.reduceBNe, ↓reduceIte, reduceIte, svA, spWi, membersS, withoutS, mpF_nil, wF_nil, cF_nil] at h; obtain ⟨rfl, rfl, rfl, rfl⟩ := h; refine ⟨?_, ?_⟩
        · first | ((with_reducible refine Ob.mk ?_); first | exact trivial | (intros; omega) | ((repeat' first | apply And.intro | (intro hg; have hg' := hg; try simp only [zH] at hg')) <;> first | (with_reducible exact True.intro) | assumption | omega | (simp only [zH]; omega))) | skip
        have hne2 : ∃ v, (loL sub W1 pl).getD v false = true := by
          obtain ⟨v, h1, h2⟩ := hex
          exact ⟨v, by rw [loL_getD, (kp_mem (by omega)).1 h1]; simpa using h2⟩
        obtain ⟨hrT, hrk⟩ := AQ_rest (g := ⟨o, p, x⟩) hlK (by show (loL sub W1 pl).length ≤ o.length; omega) hAQ2 hne2 hw.tr
        dsimp only at hrT hrk
        have hal2 : (atB (loL sub W1 pl) o.length L2).length = o.length := atB_len
        repeat' first
          | with_reducible first | refine awp_seq ?_ | refine awp_block ?_ | refine next_then ?_ | refine next_block ?_ | refine exit_then ?_ | refine ret_then ?_ | refine ret_block ?_ | refine exit_here ?_ | refine awp_exit ?_ | refine awp_ret ?_ | refine awp_skip ?_ | refine awp_label ?_ | refine next_noGoto ?_ | refine ret_noGoto ?_ | refine exit_noGoto ?_ | refine awp_scope ?_
          | ((with_reducible refine exit_past ?_ ?_); exact rfl)
          | ((with_reducible refine isCond ?_); refine awp_condO rfl ?_ ?_ <;> intro hb <;> (try simp only [zH] at hb))
          | ((with_reducible refine isReg ?_); (first | refine awp_textM htb hmz spWi_ok (fun _ => false) rfl rfl ?_ | refine awp_drawM hmo htb hmz spWi_ok (fun _ => false) rfl rfl (by kernel_rfl) ?_); intro m' e' l' ob h; simp only [zE0, zE1, zE2, zE3, zE4, zE5, evp, evx, ev1, evLoad, evStore, evBin, isBoolK, forall_const, z38, tb, Nat.reduceAdd, Nat.reduceSub, Nat.reduceMul, Nat.reduceEqDiff, Nat.reduceLeDiff, Nat.reduceLT, Nat.reduceBEq, Nat.reduceBNe, ↓reduceIte, reduceIte, svA, spWi, membersS, withoutS, mpF_nil, wF_nil, cF_nil] at h; obtain ⟨rfl, rfl, rfl, rfl⟩ := h; refine ⟨?_, ?_⟩)
          | ((with_reducible refine Ob.mk ?_); first | exact trivial | (intros; omega) | ((repeat' first | apply And.intro | (intro hg; have hg' := hg; try simp only [zH] at hg')) <;> first | assumption | omega | (simp only [zH]; omega)))
        refine back ⟨woL t.K (atB (loL sub W1 pl) o.length L2), wF (1 - pl) W1 L2, cF o (1 - pl) C1 L2, left1⟩ [(5, 47)] ?_ ⟨⟨woL_len.trans hlK, wF_len.trans (hW1.trans hlW), cF_len.trans (hC1.trans hlC), hl1a, by dsimp only; omega, hrT⟩, by dsimp only; omega, fun W' C' l' h => hR _ _ _ ?_, fun h => hP ?_⟩ hrk
        · (refine ⟨rfl, ?_, ?_⟩ <;> simp only [zE0, zE1, zE2, zE3, zE4, zE5, evp, evx, ev1, evLoad, evStore, evBin, isBoolK, forall_const, z38, tb, Nat.reduceAdd, Nat.reduceSub, Nat.reduceMul, Nat.reduceEqDiff, Nat.reduceLeDiff, Nat.reduceLT, Nat.reduceBEq, Nat.reduceBNe, ↓reduceIte, reduceIte, svA, spWi, membersS, withoutS, mpF_nil, wF_nil, cF_nil, zI])
        · rw [hpl2, hsub] at h hex hAQ2
          exact .part htp hlp hAQ (hsub ▸ hZ) hex hAQ2 h
        · rw [hpl2, hsub] at h hex hAQ2
          exact .rest htp hlp hAQ (hsub ▸ hZ) hex hAQ2 h
    · intro t h; exact h.elim
end Go.Proofs.Ytlckljphakkomaa.Cal
