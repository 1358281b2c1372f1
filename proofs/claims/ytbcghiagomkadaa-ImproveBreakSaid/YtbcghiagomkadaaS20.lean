/- Own texts of the proof, merged, in order. -/
import Derived.Test.YtbcghiagomkadaaS19
set_option linter.unusedVariables false
set_option linter.unusedSimpArgs false
namespace Go.Proofs.Ytbcghiagomkadaa.Cal
section
open Pl
/-- The map holds just the pairs. -/
structure MQ (es : List (Int × Int × Nat)) (L : List (Nat × Nat)) : Prop where
  has : ∀ v : Nat, mhas v es = decide (v ∈ L.map Prod.fst)
  get : ∀ v u : Nat, (v, u) ∈ L → mget v es = u
theorem MQ_nil : MQ [] [] := ⟨fun v => rfl, fun v u h => by cases h⟩
theorem MQ_put {es : List (Int × Int × Nat)} {L : List (Nat × Nat)} {w u c : Nat} (h : MQ es L) (hw : w ∉ L.map Prod.fst) : MQ (mput w u c es) (L ++ [(w, u)]) := by
  refine ⟨fun v => ?_, fun v z hv => ?_⟩
  · rw [mhas_mput, h.has]
    by_cases e : v = w
    · subst e; simp
    · rw [if_neg (by omega)]
      simp [e]
  · rw [mget_mput]
    rcases List.mem_append.1 hv with hv | hv
    · have : v ≠ w := fun e => hw (e ▸ List.mem_map.2 ⟨_, hv, rfl⟩)
      rw [if_neg (by omega)]
      exact h.get v z hv
    · rw [List.mem_singleton] at hv
      injection hv with h1 h2
      rw [if_pos (by omega), h2]
variable {nx : Nat → List Nat} {thr : Nat → Prop} {n fr : Nat} {L : List (Nat × Nat)} {i j v w u : Nat}
/-- All that was ever in the queue. -/
def qF (fr : Nat) (L : List (Nat × Nat)) : List Nat := fr :: L.map Prod.fst
/-- The first i of the queue are done, and the first j moves of the next one. -/
structure RQ (nx : Nat → List Nat) (thr : Nat → Prop) (n fr : Nat) (L : List (Nat × Nat)) (i j : Nat) : Prop where
  nd : (L.map Prod.fst).Nodup
  lt : ∀ v, v ∈ qF fr L → v < n
  hi : i ≤ (qF fr L).length
  ed : ∀ (k w u : Nat), L[k]? = some (w, u) → w ∈ nx u ∧ thr w ∧ u ∈ (qF fr L).take (k + 1)
  cl : ∀ u, u ∈ (qF fr L).take i → ∀ w, w ∈ nx u → thr w → w ∈ L.map Prod.fst
  cj : ∀ u, (qF fr L)[i]? = some u → ∀ w, w ∈ (nx u).take j → thr w → w ∈ L.map Prod.fst
theorem RQ_first (hf : fr < n) : RQ nx thr n fr [] 0 0 :=
  ⟨by simp, (fun v hv => by rw [show qF fr [] = [fr] from rfl, List.mem_singleton] at hv; omega), Nat.zero_le _, (fun k w u h => by simp at h), (fun u h => by simp at h), (fun u _ w h => by rw [List.take_zero] at h; cases h)⟩
theorem Zfs (h : RQ nx thr n fr L i j) : L.length ≤ n := by
  have := Zfl n _ h.nd fun x hx => h.lt x (List.mem_cons_of_mem _ hx)
  rwa [List.length_map] at this
theorem Zeg : (qF fr L).length = L.length + 1 := by simp [qF]
theorem Zgu (h : RQ nx thr n fr L i j) (hu : (qF fr L)[i]? = some u) (hw : (nx u)[j]? = some w) (hs : w ∈ L.map Prod.fst ∨ ¬ thr w) : RQ nx thr n fr L i (j + 1) := by
  refine ⟨h.nd, h.lt, h.hi, h.ed, h.cl, fun u' hu' w' hw' ht => ?_⟩
  obtain rfl : u = u' := by rw [hu] at hu'; injection hu'
  rw [List.take_add_one, hw, List.mem_append] at hw'
  rcases hw' with hw' | hw'
  · exact h.cj u hu w' hw' ht
  · rw [Option.toList_some, List.mem_singleton] at hw'
    subst hw'
    rcases hs with hs | hs
    · exact hs
    · exact absurd ht hs
theorem Zd7 : qF fr (L ++ [(w, u)]) = qF fr L ++ [w] := by simp [qF]
theorem Zf2 {l : List Nat} {a k : Nat} (h : k ≤ l.length) : (l ++ [a]).take k = l.take k := List.take_append_of_le_length h
theorem RQ_add (h : RQ nx thr n fr L i j) (hu : (qF fr L)[i]? = some u) (hw : (nx u)[j]? = some w) (hwn : w < n) (hnew : w ∉ L.map Prod.fst) (ht : thr w) : RQ nx thr n fr (L ++ [(w, u)]) i (j + 1) := by
  have hi : i < (qF fr L).length := (List.getElem?_eq_some_iff.1 hu).1
  have hm : ∀ {x}, x ∈ L.map Prod.fst → x ∈ (L ++ [(w, u)]).map Prod.fst := fun {x} hx => by rw [List.map_append]; exact List.mem_append_left _ hx
  refine ⟨?_, fun v hv => ?_, ?_, fun k w' u' hk => ?_, fun u' hu' w' hw' ht' => ?_, fun u' hu' w' hw' ht' => ?_⟩
  · rw [List.map_append, List.nodup_append]
    refine ⟨h.nd, by simp, fun a ha b hb => ?_⟩
    rw [List.map_cons, List.map_nil, List.mem_singleton] at hb
    intro e
    have hb : b = w := hb
    exact hnew (by rw [← hb, ← e]; exact ha)
  · rw [Zd7, List.mem_append, List.mem_singleton] at hv
    rcases hv with hv | rfl
    · exact h.lt v hv
    · exact hwn
  · rw [Zd7, List.length_append]; omega
  · rw [Zd7]
    rcases Nat.lt_or_ge k L.length with hkl | hkl
    · rw [List.getElem?_append_left hkl] at hk
      obtain ⟨e1, e2, e3⟩ := h.ed k w' u' hk
      rw [Zf2 (by rw [Zeg]; omega)]
      exact ⟨e1, e2, e3⟩
    · rw [List.getElem?_append_right hkl] at hk
      have hk0 : k - L.length = 0 := by
        have := (List.getElem?_eq_some_iff.1 hk).1
        simp at this; omega
      rw [hk0] at hk
      simp only [List.getElem?_cons_zero, Option.some.injEq, Prod.mk.injEq] at hk
      obtain ⟨rfl, rfl⟩ := hk
      refine ⟨List.mem_of_getElem? hw, ht, ?_⟩
      have hkk : k = L.length := by omega
      subst hkk
      rw [Zf2 (by rw [Zeg]; exact Nat.le_refl _), List.take_of_length_le (by rw [Zeg]; exact Nat.le_refl _)]
      exact List.mem_of_getElem? hu
  · rw [Zd7, Zf2 (by omega)] at hu'
    exact hm (h.cl u' hu' w' hw' ht')
  · rw [Zd7, List.getElem?_append_left hi, hu] at hu'
    obtain rfl : u = u' := by injection hu'
    rw [List.take_add_one, hw, List.mem_append] at hw'
    rcases hw' with hw' | hw'
    · exact hm (h.cj u hu w' hw' ht')
    · rw [Option.toList_some, List.mem_singleton] at hw'
      subst hw'
      rw [List.map_append]
      exact List.mem_append_right _ (by simp)
theorem RQ_next (h : RQ nx thr n fr L i j) (hu : (qF fr L)[i]? = some u) (hj : (nx u).length ≤ j) : RQ nx thr n fr L (i + 1) 0 := by
  have hi : i < (qF fr L).length := (List.getElem?_eq_some_iff.1 hu).1
  refine ⟨h.nd, h.lt, hi, h.ed, fun u' hu' w' hw' ht' => ?_, fun u' _ w' hw' => by rw [List.take_zero] at hw'; cases hw'⟩
  rw [List.take_add_one, hu, List.mem_append] at hu'
  rcases hu' with hu' | hu'
  · exact h.cl u' hu' w' hw' ht'
  · rw [Option.toList_some, List.mem_singleton] at hu'
    subst hu'
    exact h.cj u' hu w' (by rw [List.take_of_length_le hj]; exact hw') ht'
/-- The search has ended. -/
def RE (nx : Nat → List Nat) (thr : Nat → Prop) (n fr : Nat) (L : List (Nat × Nat)) : Prop := RQ nx thr n fr L (qF fr L).length 0
/-- A step of the search. -/
def SE (nx : Nat → List Nat) (thr : Nat → Prop) (a b : Nat) : Prop := b ∈ nx a ∧ thr b
theorem Zhz (h : RE nx thr n fr L) (w : Nat) : w ∈ L.map Prod.fst ↔ ∃ t, SE nx thr fr t ∧ Rch (SE nx thr) t w := by
  constructor
  · intro hw
    -- by the place of w
    obtain ⟨k, hk, e⟩ := List.getElem_of_mem hw
    have hkl : k < L.length := by simpa using hk
    induction k using Nat.strongRecOn generalizing w with
    | ind k ih =>
      have hLk : L[k]? = some (w, L[k].2) := by
        rw [List.getElem?_eq_getElem hkl]
        rw [List.getElem_map] at e
        rw [← e]
      obtain ⟨e1, e2, e3⟩ := h.ed k _ _ hLk
      rw [show qF fr L = fr :: L.map Prod.fst from rfl, List.take_succ_cons] at e3
      rcases List.mem_cons.1 e3 with e4 | e4
      · exact ⟨w, ⟨e4 ▸ e1, e2⟩, .refl _⟩
      · obtain ⟨k2, hk2, e5⟩ := List.getElem_of_mem e4
        rw [List.length_take] at hk2
        rw [List.getElem_take] at e5
        obtain ⟨t, t1, t2⟩ := ih k2 (by omega) L[k].2 (by rw [← e5]; exact List.getElem_mem _) (by omega) e5 (by simp at hk2; omega)
        exact ⟨t, t1, .step t2 ⟨e1, e2⟩⟩
  · rintro ⟨t, t1, t2⟩
    have hcl : ∀ u, u ∈ qF fr L → ∀ w, w ∈ nx u → thr w → w ∈ L.map Prod.fst := fun u hu => h.cl u (by rw [List.take_length]; exact hu)
    induction t2 with
    | refl => exact hcl fr List.mem_cons_self t t1.1 t1.2
    | step _ e ih => exact hcl _ (List.mem_cons_of_mem _ ih) _ e.1 e.2
/-- The way back so far: the last one met is v. -/
structure BkQ (nx : Nat → List Nat) (fr : Nat) (L : List (Nat × Nat)) (to : Nat) (v : Nat) (o : List Nat) : Prop where
  hd : ∃ o', o = to :: o'
  ks : ∀ z, z ∈ o → z ∈ L.map Prod.fst
  nd : o.Nodup
  nf : ∀ z, z ∈ o.drop 1 → z ≠ fr
  ch : ∀ (k a b : Nat), o[k]? = some a → (o ++ [v])[k + 1]? = some b → a ∈ nx b ∧ (a, b) ∈ L
  ix : v = fr ∨ ∃ k, k < L.length ∧ (L.map Prod.fst)[k]? = some v ∧ ∀ z, z ∈ o → ∃ k', k < k' ∧ (L.map Prod.fst)[k']? = some z
theorem Zhj (h : RQ nx thr n fr L i j) {v : Nat} (hv : v ∈ L.map Prod.fst) : ∃ (k u : Nat), L[k]? = some (v, u) ∧ (v, u) ∈ L ∧ v ∈ nx u ∧ thr v ∧ (u = fr ∨ ∃ k', k' < k ∧ (L.map Prod.fst)[k']? = some u) := by
  obtain ⟨k, hk, e⟩ := List.getElem_of_mem hv
  have hkl : k < L.length := by simpa using hk
  have hLk : L[k]? = some (v, L[k].2) := by
    rw [List.getElem?_eq_getElem hkl]
    rw [List.getElem_map] at e
    rw [← e]
  obtain ⟨e1, e2, e3⟩ := h.ed k _ _ hLk
  refine ⟨k, L[k].2, hLk, List.mem_of_getElem? hLk, e1, e2, ?_⟩
  rw [show qF fr L = fr :: L.map Prod.fst from rfl, List.take_succ_cons] at e3
  rcases List.mem_cons.1 e3 with e4 | e4
  · exact .inl e4
  · obtain ⟨k2, hk2, e5⟩ := List.getElem_of_mem e4
    rw [List.length_take] at hk2
    rw [List.getElem_take] at e5
    exact .inr ⟨k2, by omega, by rw [← e5]; exact List.getElem?_eq_getElem _⟩
theorem Zdw {l : List Nat} (hn : l.Nodup) {a b z : Nat} (h1 : l[a]? = some z) (h2 : l[b]? = some z) : a = b := by
  obtain ⟨ha, e1⟩ := List.getElem?_eq_some_iff.1 h1
  obtain ⟨hb, e2⟩ := List.getElem?_eq_some_iff.1 h2
  rcases Nat.lt_trichotomy a b with h | h | h
  · exact absurd (e1.trans e2.symm) (List.pairwise_iff_getElem.1 hn a b ha hb h)
  · exact h
  · exact absurd (e2.trans e1.symm) (List.pairwise_iff_getElem.1 hn b a hb ha h)
theorem Bk_first (h : RQ nx thr n fr L i j) {to u : Nat} (hu : (to, u) ∈ L) : BkQ nx fr L to u [to] := by
  have hk : to ∈ L.map Prod.fst := List.mem_map.2 ⟨_, hu, rfl⟩
  obtain ⟨k, u', h1, h2, h3, h4, h5⟩ := Zhj h hk
  have e : u = u' := by
    obtain ⟨a, ha, e1⟩ := List.getElem_of_mem hu
    have g1 : (L.map Prod.fst)[a]? = some to := by rw [List.getElem?_map, List.getElem?_eq_getElem ha, e1]; rfl
    have g2 : (L.map Prod.fst)[k]? = some to := by rw [List.getElem?_map, h1]; rfl
    have := Zdw h.nd g1 g2
    subst this
    rw [List.getElem?_eq_getElem ha, e1] at h1
    injection h1 with h1; injection h1
  subst e
  refine ⟨⟨[], rfl⟩, fun z hz => by rw [List.mem_singleton.1 hz]; exact hk, by simp, fun z hz => by simp at hz, fun k a b ha hb => ?_, ?_⟩
  · obtain rfl : k = 0 := by
      have := (List.getElem?_eq_some_iff.1 ha).1
      simp at this; omega
    simp at ha hb
    rw [← ha, ← hb]; exact ⟨h3, hu⟩
  · rcases h5 with h5 | ⟨k', h6, h7⟩
    · exact .inl h5
    · refine .inr ⟨k', by have := (List.getElem?_eq_some_iff.1 h7).1; simpa using this, h7, fun z hz => ?_⟩
      rw [List.mem_singleton.1 hz]
      exact ⟨k, h6, by rw [List.getElem?_map, h1]; rfl⟩
theorem Bk_key {to v : Nat} {o : List Nat} (hb : BkQ nx fr L to v o) (hv : v ≠ fr) : ∃ u, (v, u) ∈ L := by
  rcases hb.ix with e | ⟨k, h1, h2, _⟩
  · exact absurd e hv
  · rw [List.getElem?_map, List.getElem?_eq_getElem h1] at h2
    refine ⟨L[k].2, ?_⟩
    have : L[k] = (v, L[k].2) := by
      have h2 : L[k].1 = v := by injection h2
      rw [← h2]
    rw [← this]
    exact List.getElem_mem _
/-- The place of the last one met. -/
noncomputable def bkM (fr : Nat) (L : List (Nat × Nat)) (v : Nat) : Nat := if v = fr then 0 else (L.map Prod.fst).idxOf v + 1
theorem ix_of {l : List Nat} (hn : l.Nodup) {k z : Nat} (h : l[k]? = some z) : l.idxOf z = k := by
  have hm : z ∈ l := List.mem_of_getElem? h
  have hlt := List.idxOf_lt_length_of_mem hm
  refine Zdw hn (z := z) ?_ h
  rw [List.getElem?_eq_getElem hlt, List.getElem_idxOf hlt]
theorem Bk_next (h : RQ nx thr n fr L i j) {to u : Nat} {o : List Nat} (hb : BkQ nx fr L to v o) (hv : v ≠ fr) (hu : (v, u) ∈ L) : BkQ nx fr L to u (o ++ [v]) ∧ bkM fr L u < bkM fr L v := by
  obtain ⟨o', ho⟩ := hb.hd
  have hlen : 0 < o.length := by rw [ho]; simp
  have hkv : v ∈ L.map Prod.fst := List.mem_map.2 ⟨_, hu, rfl⟩
  obtain ⟨k, u', h1, h2, h3, h4, h5⟩ := Zhj h hkv
  have gk : (L.map Prod.fst)[k]? = some v := by rw [List.getElem?_map, h1]; rfl
  have e : u = u' := by
    obtain ⟨a, ha, e1⟩ := List.getElem_of_mem hu
    have g1 : (L.map Prod.fst)[a]? = some v := by rw [List.getElem?_map, List.getElem?_eq_getElem ha, e1]; rfl
    have := Zdw h.nd g1 gk
    subst this
    rw [List.getElem?_eq_getElem ha, e1] at h1
    injection h1 with h1; injection h1
  subst e
  rcases hb.ix with e | ⟨kv, q1, q2, q3⟩
  · exact absurd e hv
  have ekv : kv = k := Zdw h.nd q2 gk
  subst ekv
  refine ⟨⟨⟨o' ++ [v], by rw [ho]; rfl⟩, fun z hz => ?_, ?_, fun z hz => ?_, fun k2 a b ha hb2 => ?_, ?_⟩, ?_⟩
  · rcases List.mem_append.1 hz with hz | hz
    · exact hb.ks z hz
    · rw [List.mem_singleton.1 hz]; exact hkv
  · refine List.nodup_append.2 ⟨hb.nd, by simp, fun a ha b hb2 => ?_⟩
    rw [List.mem_singleton.1 hb2]
    rintro rfl
    obtain ⟨k', q4, q5⟩ := q3 a ha
    have := Zdw h.nd q5 gk
    omega
  · rw [List.drop_append_of_le_length (by omega)] at hz
    rcases List.mem_append.1 hz with hz | hz
    · exact hb.nf z hz
    · rw [List.mem_singleton.1 hz]; exact hv
  · rcases Nat.lt_or_ge k2 o.length with hk2 | hk2
    · rw [List.getElem?_append_left hk2] at ha
      refine hb.ch k2 a b ha ?_
      rw [List.getElem?_append_left (by simp; omega)] at hb2
      exact hb2
    · have hk3 : k2 = o.length := by
        have := (List.getElem?_eq_some_iff.1 ha).1
        simp at this; omega
      subst hk3
      rw [List.getElem?_append_right (Nat.le_refl _), Nat.sub_self] at ha
      rw [List.getElem?_append_right (by simp)] at hb2
      simp at ha hb2
      rw [← ha, ← hb2]; exact ⟨h3, hu⟩
  · rcases h5 with h5 | ⟨k', h6, h7⟩
    · exact .inl h5
    · refine .inr ⟨k', by omega, h7, fun z hz => ?_⟩
      rcases List.mem_append.1 hz with hz | hz
      · obtain ⟨k2, q4, q5⟩ := q3 z hz
        exact ⟨k2, by omega, q5⟩
      · rw [List.mem_singleton.1 hz]
        exact ⟨kv, h6, gk⟩
  · unfold bkM
    rw [if_neg hv, ix_of h.nd gk]
    split
    · omega
    · rcases h5 with h5 | ⟨k', h6, h7⟩
      · rename_i h8; exact absurd h5 h8
      · rw [ix_of h.nd h7]; omega
theorem nodup_subL : ∀ {l m : List Nat}, l.Nodup → (∀ x, x ∈ l → x ∈ m) → l.length ≤ m.length
  | [], _, _, _ => Nat.zero_le _
  | a :: l, m, h, hs => by
    have hm := hs a List.mem_cons_self
    have := nodup_subL (l := l) (m := m.erase a) (List.nodup_cons.1 h).2 fun x hx => (List.mem_erase_of_ne (fun e : x = a => (List.nodup_cons.1 h).1 (e ▸ hx))).2 (hs x (List.mem_cons_of_mem _ hx))
    rw [List.length_erase_of_mem hm] at this
    have := List.length_pos_of_mem hm
    rw [List.length_cons]
    omega
theorem Bk_len {to : Nat} {o : List Nat} (hb : BkQ nx fr L to v o) : o.length ≤ L.length := by
  have := nodup_subL hb.nd hb.ks
  simpa using this
/-- Pairs from each to the next, the last one to fr. -/
def PcL (L : List (Nat × Nat)) (fr : Nat) : Nat → List Nat → Prop
  | a, [] => (a, fr) ∈ L
  | a, b :: l => (a, b) ∈ L ∧ PcL L fr b l
theorem Zh0 : ∀ {l : List Nat} {a : Nat}, (∀ (k x y : Nat), (a :: l)[k]? = some x → ((a :: l) ++ [fr])[k + 1]? = some y → (x, y) ∈ L) → PcL L fr a l
  | [], a, h => h 0 a fr rfl rfl
  | b :: l, a, h => ⟨h 0 a b rfl rfl, Zh0 fun k x y h1 h2 => h (k + 1) x y (by simpa using h1) (by simpa using h2)⟩
theorem PcL_uniq (hf : ∀ a b b', (a, b) ∈ L → (a, b') ∈ L → b = b') : ∀ {l l' : List Nat} {a : Nat}, PcL L fr a l → PcL L fr a l' → (∀ z, z ∈ l → z ≠ fr) → (∀ z, z ∈ l' → z ≠ fr) → l = l'
  | [], [], _, _, _, _, _ => rfl
  | [], b :: l', a, h, h', _, n' => absurd (hf a b fr h'.1 h) (n' b List.mem_cons_self)
  | b :: l, [], a, h, h', n, _ => absurd (hf a b fr h.1 h') (n b List.mem_cons_self)
  | b :: l, b' :: l', a, h, h', n, n' => by
    obtain rfl := hf a b b' h.1 h'.1
    rw [PcL_uniq hf h.2 h'.2 (fun z hz => n z (List.mem_cons_of_mem _ hz)) (fun z hz => n' z (List.mem_cons_of_mem _ hz))]
theorem bk_uniq (h : RQ nx thr n fr L i j) {to : Nat} {o o' : List Nat} (hb : BkQ nx fr L to fr o) (hb' : BkQ nx fr L to fr o') : o = o' := by
  have hf : ∀ a b b', (a, b) ∈ L → (a, b') ∈ L → b = b' := by
    intro a b b' h1 h2
    obtain ⟨x, hx, e1⟩ := List.getElem_of_mem h1
    obtain ⟨y, hy, e2⟩ := List.getElem_of_mem h2
    have g1 : (L.map Prod.fst)[x]? = some a := by rw [List.getElem?_map, List.getElem?_eq_getElem hx, e1]; rfl
    have g2 : (L.map Prod.fst)[y]? = some a := by rw [List.getElem?_map, List.getElem?_eq_getElem hy, e2]; rfl
    have := Zdw h.nd g1 g2
    subst this
    rw [e1] at e2
    injection e2
  obtain ⟨q, rfl⟩ := hb.hd
  obtain ⟨q', rfl⟩ := hb'.hd
  rw [PcL_uniq hf (Zh0 fun k x y h1 h2 => (hb.ch k x y h1 h2).2) (Zh0 fun k x y h1 h2 => (hb'.ch k x y h1 h2).2) (fun z hz => hb.nf z hz) (fun z hz => hb'.nf z hz)]
theorem bk_on (h : RQ nx thr n fr L i j) {to : Nat} : ∀ (m v : Nat) (o : List Nat), bkM fr L v ≤ m → BkQ nx fr L to v o → ∃ o', BkQ nx fr L to fr o'
  | 0, v, o, hm, hb => by
    have : v = fr := by
      unfold bkM at hm
      split at hm
      · assumption
      · omega
    subst this
    exact ⟨o, hb⟩
  | m + 1, v, o, hm, hb => by
    by_cases hv : v = fr
    · subst hv; exact ⟨o, hb⟩
    · obtain ⟨u, hu⟩ := Bk_key hb hv
      obtain ⟨h1, h2⟩ := Bk_next h hb hv hu
      exact bk_on h m u _ (by omega) h1
theorem bk_ex (h : RQ nx thr n fr L i j) {to : Nat} (hto : to ∈ L.map Prod.fst) : ∃ o, BkQ nx fr L to fr o := by
  obtain ⟨⟨a, u⟩, hm, rfl⟩ := List.mem_map.1 hto
  exact bk_on h _ u _ (Nat.le_refl _) (Bk_first h hm)
end
end Go.Proofs.Ytbcghiagomkadaa.Cal
