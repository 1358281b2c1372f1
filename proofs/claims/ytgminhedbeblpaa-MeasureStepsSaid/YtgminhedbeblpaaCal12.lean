/- What single operations come to, over abstract values: append, slices that are written out, a choice between two values. -/
import Derived.Test.YtgminhedbeblpaaCal11
set_option linter.unusedVariables false
set_option linter.unusedSimpArgs false
namespace Go.Proofs.Ytgminhedbeblpaa.Cal
open Go

section
variable {P : Program} {K Z : Nat → Prop} {ν : Nat → Value} {w : World} {get : Operand → AV} {ev : Operand → Value} {μ : Nat → Bool} {rs : Rs} {tb : Nat → Option TI}

/-- A slice's elements, laid out: m of them. -/
structure Src (w : World) (v : Value) (sz m : Nat) (g : Nat → List Value → Prop) (A : Option Addr) (c : Nat) (news : List Value) : Prop where
  val : v = .slice A m c
  len : news.length = m * sz
  rd : ∀ ad, A = some ad → ∀ j u, news[j]? = some u → w.cell? (ad.add j) = some u
  nil : A = none → news = []
  el : ∀ j, j < m → g j ((news.drop (j * sz)).take sz)
  one : ∀ u, u ∈ news → u.oneCell' = true

theorem src_cells {v : Value} {sz m : Nat} {g : Nat → List Value → Prop} (hone : ∀ j es, j < m → g j es → ∀ u, u ∈ es → u.oneCell' = true) {A : Option Addr} {c : Nat} (hv : v = .slice A m c) (h0 : m = 0 → A = none ∨ sz = sz)
    (h : 0 < m → ∃ b o, A = some ⟨b, o, none⟩ ∧ ∀ j, j < m → ∃ es, g j es ∧ es.length = sz ∧ ∀ (i : Nat) x, es[i]? = some x → w.cell? ⟨b, o + (j * sz + i), none⟩ = some x) : ∃ news, Src w v sz m g A c news := by
  by_cases hm : m = 0
  · subst hm
    exact ⟨[], hv, by simp, fun _ _ j u h => by simp at h, fun _ => rfl, fun j hj => by omega, fun u hu => by simp at hu⟩
  · obtain ⟨b, o, rfl, hc⟩ := h (by omega)
    have hel : ∀ j, j < m → ∃ es, g j es ∧ es.length = sz ∧ (((List.range (m * sz)).map fun q => (w.cell? ⟨b, o + q, none⟩).getD undef).drop (j * sz)).take sz = es ∧ ∀ (i : Nat) x, es[i]? = some x → w.cell? ⟨b, o + (j * sz + i), none⟩ = some x := by
      intro j hj
      obtain ⟨es, e1, e2, e3⟩ := hc j hj
      have hle : j * sz + sz ≤ m * sz := by rw [← Nat.succ_mul]; exact Nat.mul_le_mul_right _ hj
      refine ⟨es, e1, e2, List.ext_getElem? fun q => ?_, e3⟩
      rw [List.getElem?_take, List.getElem?_drop]
      by_cases hq : q < sz
      · rw [if_pos hq, List.getElem?_map, List.getElem?_range (by omega)]
        obtain ⟨x, hx⟩ : ∃ x, es[q]? = some x := ⟨es[q], List.getElem?_eq_getElem (by omega)⟩
        rw [hx, Option.map_some, e3 q x hx]; rfl
      · rw [if_neg hq, List.getElem?_eq_none (by omega)]
    refine ⟨(List.range (m * sz)).map fun q => (w.cell? ⟨b, o + q, none⟩).getD undef, hv, by simp, ?_, by simp, fun j hj => ?_, fun u hu => ?_⟩
    · intro ad had q u hq
      simp only [Option.some.injEq] at had
      subst had
      rw [List.getElem?_map] at hq
      have hqs : q < m * sz := by
        rcases Nat.lt_or_ge q (m * sz) with h | h
        · exact h
        · rw [List.getElem?_eq_none (by simpa using h)] at hq; cases hq
      rw [List.getElem?_range hqs, Option.map_some, Option.some.injEq] at hq
      subst hq
      have hsz : 0 < sz := by
        rcases Nat.eq_zero_or_pos sz with h | h
        · rw [h] at hqs; omega
        · exact h
      obtain ⟨es, e1, e2, e3, e4⟩ := hel (q / sz) ((Nat.div_lt_iff_lt_mul hsz).2 hqs)
      have hmod := Nat.mod_lt q hsz
      obtain ⟨x, hx⟩ : ∃ x, es[q % sz]? = some x := ⟨es[q % sz], List.getElem?_eq_getElem (by omega)⟩
      have := e4 _ _ hx
      have hdm : q / sz * sz + q % sz = q := by rw [Nat.mul_comm]; exact Nat.div_add_mod q sz
      rw [hdm] at this
      rw [Addr.add_lit, this]; rfl
    · obtain ⟨es, e1, e2, e3, e4⟩ := hel j hj
      rw [e3]; exact e1
    · obtain ⟨q, hq, rfl⟩ := List.mem_map.1 hu
      have hqs := List.mem_range.1 hq
      have hsz : 0 < sz := by
        rcases Nat.eq_zero_or_pos sz with h | h
        · rw [h] at hqs; omega
        · exact h
      have hlt := (Nat.div_lt_iff_lt_mul hsz).2 hqs
      obtain ⟨es, e1, e2, e3, e4⟩ := hel (q / sz) hlt
      have hmod := Nat.mod_lt q hsz
      obtain ⟨x, hx⟩ : ∃ x, es[q % sz]? = some x := ⟨es[q % sz], List.getElem?_eq_getElem (by omega)⟩
      have := e4 _ _ hx
      have hdm : q / sz * sz + q % sz = q := by rw [Nat.mul_comm]; exact Nat.div_add_mod q sz
      rw [hdm] at this
      rw [this]
      exact hone _ es hlt e1 x (List.mem_of_getElem? hx)

theorem src_ro {v : Value} {sz m : Nat} {g : Nat → List Value → Prop} (hone : ∀ j es, j < m → g j es → ∀ u, u ∈ es → u.oneCell' = true) (h : roRow Z w sz m g [v]) : ∃ A c news, Src w v sz m g A c news := by
  obtain ⟨A, cap, e, h1, h2, h3⟩ := h
  obtain ⟨news, hs⟩ := src_cells (w := w) hone (one1 e) (fun _ => .inr rfl) (fun hm => by
    obtain ⟨b, o, hA, _, hc⟩ := h3 hm
    exact ⟨b, o, hA, hc⟩)
  exact ⟨A, cap, news, hs⟩

theorem src_row {v : Value} {sz m : Nat} {g : Nat → List Value → Prop} {F : Nat → Prop} (hone : ∀ j es, j < m → g j es → ∀ u, u ∈ es → u.oneCell' = true) (h : row w v sz m g F) : ∃ A c news, Src w v sz m g A c news := by
  rcases h with ⟨h0, h1, _⟩ | ⟨b, o, cap, cells, T, hx, _, _, hh, _, _, hc⟩
  · subst h1
    obtain ⟨news, hs⟩ := src_cells (w := w) (v := v) (sz := sz) (m := 0) (g := g) hone h0 (fun _ => .inr rfl) (fun hm => by omega)
    exact ⟨_, _, news, hs⟩
  · obtain ⟨news, hs⟩ := src_cells (w := w) hone hx (fun _ => .inr rfl) (fun hm => ⟨b, o, rfl, fun j hj => by
      obtain ⟨es, e1, e2, e3⟩ := hc j hj
      exact ⟨es, e1, e2, fun i c hi => cell_heap hh (e3 i c hi)⟩⟩)
    exact ⟨_, _, news, hs⟩

theorem int_one {xs : List Int} {m : Nat} : ∀ j es, j < m → intAt xs j es → ∀ u, u ∈ es → u.oneCell' = true := by
  intro j es _ h u hu; rw [h] at hu; simp at hu; subst hu; rfl
theorem bool_one {xs : List Bool} {m : Nat} : ∀ j es, j < m → boolAt xs j es → ∀ u, u ∈ es → u.oneCell' = true := by
  intro j es _ h u hu; rw [h] at hu; simp at hu; subst hu; rfl
theorem ro_one {xs : List (List Int)} {m : Nat} : ∀ j es, j < m → R Z w (.roI (xs.getD j [])) ν false es → ∀ u, u ∈ es → u.oneCell' = true := by
  intro j es _ h u hu
  obtain ⟨A, cap, e, _⟩ := h
  rw [e] at hu; simp at hu; subst hu; rfl

def dstX (u : AV) : Option Nat → Prop
  | some k => u = .own k
  | none => u = .cst (.slice none 0 0)
def dstG (sz n : Nat) (g : (Nat → Prop) → World → (Nat → Value) → Nat → List Value → Prop) (B0 : Blk) : Option Nat → Prop
  | some _ => ∀ Z w ν v F, sat Z w ν v F B0 → row w v sz n (g Z w ν) F
  | none => n = 0
def dstW (kn : Nat) (B : Blk) : Option Nat → List (Nat × Option Blk)
  | some k => [(kn, some B), (k, none)]
  | none => [(kn, some B)]

/-- append, over whatever elements. What is read: 'rd'; what it was: 'k0'. -/
theorem opsem_append {o : Oper} {t e : Nat} {i ie : TI} {x y : Operand} (ho : o.op = .call ⟨.builtin .append, #[x, y], #[t, t]⟩) (ht : TOK P t i) (hk : i.k = .slc e) (he : TOK P e ie) (hsz : 0 < ie.size) {n m : Nat} (hlim : n + m ≤ lim) (hb : (n + m) * ie.bytes ≤ lim) (kn : Nat)
    {k0 : Option Nat} {B0 B : Blk} (hx0 : dstX (get x) k0) {rd : List (Nat × Blk)} (hrd0 : ∀ k, k0 = some k → (k, B0) ∈ rd)
    (g : (Nat → Prop) → World → (Nat → Value) → Nat → List Value → Prop) (hg0 : dstG ie.size n g B0 k0) (hgm : ∀ (Z : Nat → Prop) (w w' : World) ν j es, (∀ b, Z b → w'.heap[b]? = w.heap[b]?) → j < n → g Z w ν j es → g Z w' ν j es)
    (g' : (Nat → Prop) → World → (Nat → Value) → Nat → List Value → Prop) (hsrc : ∀ (K Z : Nat → Prop) (ν : Nat → Value) (w : World) (μ : Nat → Bool) (rs : Rs) (v : Value), (∀ k, (ν k).oneCell' = true) → GoodRs K Z w ν μ rs → (∀ p, p ∈ rd → rs p.1 = some p.2) → R Z w (get y) ν true [v] → ∃ A c news, Src w v ie.size m (g' Z w ν) A c news)
    (hgm' : ∀ (Z : Nat → Prop) (w w' : World) ν j es, (∀ b, Z b → w'.heap[b]? = w.heap[b]?) → j < m → g' Z w ν j es → g' Z w' ν j es)
    (hB : ∀ Z w ν ν' v F, row w v ie.size (n + m) (fun j es => if j < n then g Z w ν j es else g' Z w ν (j - n) es) F → sat Z w ν' v F B) (hmB : ∀ μ, menB μ B) :
    OpSem P o get (.own kn) rd (dstW kn B k0) (some kn) :=
  ⟨fun K Z ν w ev μ rs h1 hg hzk hkl hx hrd hkn => by
    have hk2 := hkn kn rfl
    obtain ⟨rx, mx⟩ := hx x (by rw [ho]; simp [Op.operands, Call.operands])
    obtain ⟨ry, my⟩ := hx y (by rw [ho]; simp [Op.operands, Call.operands])
    obtain ⟨A, c, news, hs⟩ := hsrc K Z ν w μ rs (ev y) h1 hg hrd ry
    have hexec : ∀ (v : Value) (w' : World), (Builtin.append_ #[t, t] o.type #[ev x, ev y]).run P w = .ok v w' → (execOp ev o).run P w = .ok (.value v) w' := fun v w' h => by
      simp [execOp, ho, resolve, invoke, builtin, Sem.run_bind, h, Result.andThen, Sem.run]
    have hnew : ∀ (g0 : Nat → List Value → Prop) (w' : World) (v : Value) (F : Nat → Prop), (∀ b, Z b → w'.heap[b]? = w.heap[b]?) → (∀ j es, j < n → g0 j es → g Z w ν j es) →
        row w' v ie.size (n + m) (fun j es => if j < n then g0 j es else es = (news.drop ((j - n) * ie.size)).take ie.size) F → row w' v ie.size (n + m) (fun j es => if j < n then g Z w' ν j es else g' Z w' ν (j - n) es) F := by
      intro g0 w' v F hz h0 h
      refine row_mono (fun _ _ => rfl) (fun j es hj hje => ?_) h
      by_cases hjn : j < n
      · rw [if_pos hjn] at hje ⊢; exact hgm Z w w' ν j es hz hjn (h0 j es hjn hje)
      · rw [if_neg hjn] at hje ⊢; rw [hje]; exact hgm' Z w w' ν _ _ hz (by omega) (hs.el (j - n) (by omega))
    cases k0 with
    | some k =>
      have hrk : rs k = some B0 := hrd _ (hrd0 k rfl)
      obtain ⟨F0, s0, m0, u0, hF0, swap⟩ := grs_swap hg hzk hkl hrk
      have hx0 : get x = .own k := hx0
      rw [hx0] at rx
      have ex := one1 rx
      have hrow : row w (ev x) ie.size n (g Z w ν) F0 := by rw [ex]; exact hg0 Z w ν _ _ s0
      obtain ⟨x', w', F', a1, a2, a3, a4, a5, a6, a7, a8, a9⟩ := row_append (P := P) (ty := o.type) ht hk he hrow hsz hs.len hs.rd hs.nil hs.one hlim hb (fun y hy => (hF0 y hy).2)
      have hKw : ∀ b, K b → w'.heap[b]? = w.heap[b]? := fun b hb => a3 b (fun hf => (hF0 b hf).1 hb) (hkl b hb)
      rw [hs.val] at hexec
      refine ⟨x', w', upN ν kn x', Z, .inl (hexec _ _ a1), ⟨⟨a5, a6, a7, a4, hKw⟩, fun _ h => h, fun _ h => .inl h⟩, upN_ext hk2, upN_one h1 a9, ?_, ?_, addK_new, fun b hb => by have := hkl b (hzk b hb); omega⟩
      · rw [un_self hzk]
        exact swap w' (upN ν kn x') kn B F' a4 a3 (upN_ext hk2) (.inr hk2) (by rw [upN_same]; exact hB Z w' ν _ _ _ (hnew _ w' x' F' (fun b hb => hKw b (hzk b hb)) (fun _ _ _ h => h) a2)) (hmB _) a8
      · show [_] = [_]; rw [upN_same]
    | none =>
      have hx0 : get x = .cst (.slice none 0 0) := hx0
      have hn0 : n = 0 := hg0
      subst hn0
      rw [hx0] at rx
      have ex := one1 rx
      have hrow : row w (ev x) ie.size 0 (fun _ _ => False) (fun _ => False) := .inl ⟨ex, rfl, fun _ h => h⟩
      obtain ⟨x', w', F', a1, a2, a3, a4, a5, a6, a7, a8, a9⟩ := row_append (P := P) (ty := o.type) ht hk he hrow hsz hs.len hs.rd hs.nil hs.one hlim hb (fun y hy => hy.elim)
      have hold : ∀ b, b < w.heap.size → w'.heap[b]? = w.heap[b]? := fun b hb => a3 b (fun h => h) hb
      rw [hs.val] at hexec
      have hrow' := hnew _ w' x' F' (fun b hb => hold b (hkl b (hzk b hb))) (fun _ _ h _ => by omega) a2
      refine ⟨x', w', upN ν kn x', Z, .inl (hexec _ _ a1), ⟨⟨a5, a6, a7, a4, fun b hb => hold b (hkl b hb)⟩, fun _ h => h, fun _ h => .inl h⟩, upN_ext hk2, upN_one h1 a9, ?_, ?_, addK_new, fun b hb => by have := hkl b (hzk b hb); omega⟩
      · rw [un_self hzk]
        exact grs_new hg hzk hkl hk2 a4 hold (hB Z w' ν _ _ _ hrow') (hmB _) (fun y hy => by
          have := a8 y hy
          exact ⟨this.1.elim (fun h => h.elim) id, this.2⟩)
      · show [_] = [_]; rw [upN_same]⟩

/-! ### What may be appended -/
/-- Elements of a slice, read. -/
def SrcOf (rd : List (Nat × Blk)) (u : AV) (sz m : Nat) (g' : (Nat → Prop) → World → (Nat → Value) → Nat → List Value → Prop) : Prop :=
  ∀ (K Z : Nat → Prop) (ν : Nat → Value) (w : World) (μ : Nat → Bool) (rs : Rs) (v : Value), (∀ k, (ν k).oneCell' = true) → GoodRs K Z w ν μ rs → (∀ p, p ∈ rd → rs p.1 = some p.2) → R Z w u ν true [v] → ∃ A c news, Src w v sz m (g' Z w ν) A c news

theorem src_nil {rd : List (Nat × Blk)} {sz : Nat} {g'} : SrcOf rd (.cst (.slice none 0 0)) sz 0 g' := fun K Z ν w μ rs v _ _ _ h =>
  ⟨none, 0, [], one1 h, by simp, (fun _ h => by cases h), fun _ => rfl, fun j hj => absurd hj (Nat.not_lt_zero j), fun u hu => absurd hu (by simp)⟩
theorem src_roI {rd : List (Nat × Blk)} {ys : List Int} : SrcOf rd (.roI ys) 1 ys.length (fun _ _ _ => intAt ys) := fun K Z ν w μ rs v _ _ _ h => src_ro int_one h
theorem src_roB {rd : List (Nat × Blk)} {ys : List Bool} : SrcOf rd (.roB ys) 1 ys.length (fun _ _ _ => boolAt ys) := fun K Z ν w μ rs v _ _ _ h => src_ro bool_one h
theorem src_roII {rd : List (Nat × Blk)} {ys : List (List Int)} : SrcOf rd (.roII ys) 1 ys.length (fun Z w ν j es => R Z w (.roI (ys.getD j [])) ν false es) := fun K Z ν w μ rs v _ _ _ h => src_ro ro_one h
theorem src_own {rd : List (Nat × Blk)} {k : Nat} {ys : List Int} (hr : (k, Blk.ints ys) ∈ rd) : SrcOf rd (.own k) 1 ys.length (fun _ _ _ => intAt ys) := fun K Z ν w μ rs v _ hg hrd h => by
  obtain ⟨Ft, hF⟩ := hg
  obtain ⟨_, _, hs, _⟩ := hF k _ (hrd _ hr)
  rw [one1 h]
  exact src_row int_one hs
theorem src_ownB {rd : List (Nat × Blk)} {k : Nat} {ys : List Bool} (hr : (k, Blk.bools ys) ∈ rd) : SrcOf rd (.own k) 1 ys.length (fun _ _ _ => boolAt ys) := fun K Z ν w μ rs v _ hg hrd h => by
  obtain ⟨Ft, hF⟩ := hg
  obtain ⟨_, _, hs, _⟩ := hF k _ (hrd _ hr)
  rw [one1 h]
  exact src_row bool_one hs
theorem src_ownR {rd : List (Nat × Blk)} {k : Nat} {ys : List (List Int)} (hr : (k, Blk.rowsR ys) ∈ rd) : SrcOf rd (.own k) 1 ys.length (fun Z w ν j es => R Z w (.roI (ys.getD j [])) ν false es) := fun K Z ν w μ rs v _ hg hrd h => by
  obtain ⟨Ft, hF⟩ := hg
  obtain ⟨_, _, hs, _⟩ := hF k _ (hrd _ hr)
  rw [one1 h]
  exact src_row ro_one hs

/-- One struct that nobody writes. -/
theorem src_one {rd : List (Nat × Blk)} {sz : Nat} {g : Nat → AV} (ha : isAg (g 0) = true) (hc : isCC (g 0) = true) : SrcOf rd (.ro sz 1 g) sz 1 (fun Z w _ _ es => R Z w (g 0) nu0 false es) := fun K Z ν w μ rs v _ _ _ h => by
  refine src_ro (fun j es _ hr u hu => ?_) (roRow_mono (fun _ h => h) (fun _ _ => rfl) (fun j es hj hh => ?_) h)
  · cases hg : g 0 with
    | agg l =>
      rw [hg] at hr hc
      exact oneL (ν := nu0) (fun _ => rfl) hc hr u hu
    | _ => rw [hg] at ha; cases ha
  · obtain rfl : j = 0 := by omega
    exact hh.2

theorem getD_app {α : Type} {xs ys : List α} {d : α} {j n : Nat} (hn : n = xs.length) : (xs ++ ys).getD j d = if j < n then xs.getD j d else ys.getD (j - n) d := by
  subst hn
  simp only [List.getD_eq_getElem?_getD]
  split
  · rw [List.getElem?_append_left (by omega)]
  · rw [List.getElem?_append_right (by omega)]

section
variable {o : Oper} {t e : Nat} {i ie : TI} {x y : Operand}

theorem opsem_append_ints (ho : o.op = .call ⟨.builtin .append, #[x, y], #[t, t]⟩) (ht : TOK P t i) (hk : i.k = .slc e) (he : TOK P e ie) (hsz : ie.size = 1) {xs ys : List Int} (hlim : xs.length + ys.length ≤ 1000000000000) (hby : ie.bytes ≤ 100) (kn : Nat) {k0 : Option Nat} (hx0 : dstX (get x) k0) {rd : List (Nat × Blk)}
    (hrd0 : ∀ k, k0 = some k → (k, .ints xs) ∈ rd) (h0 : k0 = none → xs = []) (hs : SrcOf rd (get y) 1 ys.length (fun _ _ _ => intAt ys)) : OpSem P o get (.own kn) rd (dstW kn (.ints (xs ++ ys)) k0) (some kn) := by
  have hmul : (xs.length + ys.length) * ie.bytes ≤ 1000000000000 * 100 := Nat.mul_le_mul hlim hby
  refine opsem_append (n := xs.length) (m := ys.length) (B0 := .ints xs) ho ht hk he (by omega) (by simp only [lim]; omega) (by simp only [lim]; omega) kn hx0 hrd0 (fun _ _ _ => intAt xs) ?_ (fun _ _ _ _ _ _ _ _ h => h) (fun _ _ _ => intAt ys) (by rw [hsz]; exact hs) (fun _ _ _ _ _ _ _ _ h => h) ?_ (fun _ => trivial)
  · cases k0 with
    | none => exact by rw [h0 rfl]; rfl
    | some k => rw [hsz]; exact fun _ _ _ _ _ h => h
  · intro Z w ν ν' v F h
    show row w v 1 (xs ++ ys).length _ F
    rw [List.length_append, ← hsz]
    refine row_mono (fun _ _ => rfl) (fun j es hj hje => ?_) h
    rw [intAt, getD_app rfl]
    split
    · rw [if_pos ‹_›] at hje; exact hje
    · rw [if_neg ‹_›] at hje; exact hje

theorem opsem_append_bools (ho : o.op = .call ⟨.builtin .append, #[x, y], #[t, t]⟩) (ht : TOK P t i) (hk : i.k = .slc e) (he : TOK P e ie) (hsz : ie.size = 1) {xs ys : List Bool} (hlim : xs.length + ys.length ≤ 1000000000000) (hby : ie.bytes ≤ 100) (kn : Nat) {k0 : Option Nat} (hx0 : dstX (get x) k0) {rd : List (Nat × Blk)}
    (hrd0 : ∀ k, k0 = some k → (k, .bools xs) ∈ rd) (h0 : k0 = none → xs = []) (hs : SrcOf rd (get y) 1 ys.length (fun _ _ _ => boolAt ys)) : OpSem P o get (.own kn) rd (dstW kn (.bools (xs ++ ys)) k0) (some kn) := by
  have hmul : (xs.length + ys.length) * ie.bytes ≤ 1000000000000 * 100 := Nat.mul_le_mul hlim hby
  refine opsem_append (n := xs.length) (m := ys.length) (B0 := .bools xs) ho ht hk he (by omega) (by simp only [lim]; omega) (by simp only [lim]; omega) kn hx0 hrd0 (fun _ _ _ => boolAt xs) ?_ (fun _ _ _ _ _ _ _ _ h => h) (fun _ _ _ => boolAt ys) (by rw [hsz]; exact hs) (fun _ _ _ _ _ _ _ _ h => h) ?_ (fun _ => trivial)
  · cases k0 with
    | none => exact by rw [h0 rfl]; rfl
    | some k => rw [hsz]; exact fun _ _ _ _ _ h => h
  · intro Z w ν ν' v F h
    show row w v 1 (xs ++ ys).length _ F
    rw [List.length_append, ← hsz]
    refine row_mono (fun _ _ => rfl) (fun j es hj hje => ?_) h
    rw [boolAt, getD_app rfl]
    split
    · rw [if_pos ‹_›] at hje; exact hje
    · rw [if_neg ‹_›] at hje; exact hje

theorem opsem_append_rowsR (ho : o.op = .call ⟨.builtin .append, #[x, y], #[t, t]⟩) (ht : TOK P t i) (hk : i.k = .slc e) (he : TOK P e ie) (hsz : ie.size = 1) {xs ys : List (List Int)} (hlim : xs.length + ys.length ≤ 1000000000000) (hby : ie.bytes ≤ 100) (kn : Nat) {k0 : Option Nat} (hx0 : dstX (get x) k0) {rd : List (Nat × Blk)}
    (hrd0 : ∀ k, k0 = some k → (k, .rowsR xs) ∈ rd) (h0 : k0 = none → xs = []) (hs : SrcOf rd (get y) 1 ys.length (fun Z w ν j es => R Z w (.roI (ys.getD j [])) ν false es)) : OpSem P o get (.own kn) rd (dstW kn (.rowsR (xs ++ ys)) k0) (some kn) := by
  have hmul : (xs.length + ys.length) * ie.bytes ≤ 1000000000000 * 100 := Nat.mul_le_mul hlim hby
  refine opsem_append (n := xs.length) (m := ys.length) (B0 := .rowsR xs) ho ht hk he (by omega) (by simp only [lim]; omega) (by simp only [lim]; omega) kn hx0 hrd0 (fun Z w ν j es => R Z w (.roI (xs.getD j [])) ν false es) ?_ (fun _ _ _ _ _ _ hz _ h => R_mono (fun _ h => h) hz h)
    (fun Z w ν j es => R Z w (.roI (ys.getD j [])) ν false es) (by rw [hsz]; exact hs) (fun _ _ _ _ _ _ hz _ h => R_mono (fun _ h => h) hz h) ?_ (fun _ => trivial)
  · cases k0 with
    | none => exact by rw [h0 rfl]; rfl
    | some k => rw [hsz]; exact fun _ _ _ _ _ h => h
  · intro Z w ν ν' v F h
    show row w v 1 (xs ++ ys).length _ F
    rw [List.length_append, ← hsz]
    refine row_mono (fun _ _ => rfl) (fun j es hj hje => ?_) h
    rw [getD_app rfl]
    split
    · rw [if_pos ‹_›] at hje; exact R_free rfl hje
    · rw [if_neg ‹_›] at hje; exact R_free rfl hje
end

section
variable {o : Oper} {t e : Nat} {i ie : TI} {x y : Operand}
theorem opsem_append_avs (ho : o.op = .call ⟨.builtin .append, #[x, y], #[t, t]⟩) (ht : TOK P t i) (hk : i.k = .slc e) (he : TOK P e ie) {sz n : Nat} {f g : Nat → AV} (hsz : ie.size = sz) (hsp : 0 < sz) (hlim : n + 1 ≤ 1000000000) (hby : ie.bytes ≤ 1000) (kn : Nat) {k0 : Option Nat} (hx0 : dstX (get x) k0) {rd : List (Nat × Blk)}
    (hrd0 : ∀ k, k0 = some k → (k, .avs sz n f) ∈ rd) (h0 : k0 = none → n = 0) (hf : ∀ j, j < n → men noK (f j) = true) (hg : men noK (g 0) = true) (hs : SrcOf rd (get y) sz 1 (fun Z w _ _ es => R Z w (g 0) nu0 false es)) : OpSem P o get (.own kn) rd (dstW kn (.avs sz (n + 1) (fun j => if j < n then f j else g 0)) k0) (some kn) := by
  have hmul : (n + 1) * ie.bytes ≤ 1000000000 * 1000 := Nat.mul_le_mul hlim hby
  refine opsem_append (n := n) (m := 1) (B0 := .avs sz n f) ho ht hk he (by omega) (by simp only [lim]; omega) (by simp only [lim]; omega) kn hx0 hrd0 (fun Z w ν j es => R Z w (f j) ν false es) ?_ (fun _ _ _ _ _ _ hz _ h => R_mono (fun _ h => h) hz h)
    (fun Z w _ _ es => R Z w (g 0) nu0 false es) (by rw [hsz]; exact hs) (fun _ _ _ _ _ _ hz _ h => R_mono (fun _ h => h) hz h) ?_ (fun μ j hj => ?_)
  · cases k0 with
    | none => exact h0 rfl
    | some k => rw [hsz]; exact fun _ _ _ _ _ h => h
  · intro Z w ν ν' v F h
    show row w v sz (n + 1) _ F
    rw [← hsz]
    refine row_mono (fun _ _ => rfl) (fun j es hj hje => ?_) h
    dsimp only at hje ⊢
    split
    · rename_i hjn
      rw [if_pos hjn] at hje; exact R_free (hf j hjn) hje
    · rename_i hjn
      rw [if_neg hjn] at hje; exact R_free hg hje
  · dsimp only
    split
    · rename_i hjn; exact men_free (hf j hjn)
    · exact men_free hg
end

/-! ### A choice -/
theorem opsem_pick {o : Oper} {c a b : Operand} {p : Bool} {v : AV} (ho : o.op = .pick c a b) (hc : get c = .bool p) (h : ∀ (Z : Nat → Prop) (w : World) (ν : Nat → Value) (y : Value), R Z w (if p then get a else get b) ν true [y] → R Z w v ν true [y]) (hm : ∀ μ, men μ (get a) = true → men μ (get b) = true → men μ v = true) : OpSem P o get v [] [] none :=
  opsem_pure fun K Z ν w ev μ rs h1 hg hx hrd => by
    have r1 := (hx c (by rw [ho]; simp [Op.operands])).1
    rw [hc] at r1
    have e1 := one1 r1
    have ra := hx a (by rw [ho]; simp [Op.operands])
    have rb := hx b (by rw [ho]; simp [Op.operands])
    refine ⟨if p then ev a else ev b, by simp [execOp, ho, e1, asBool, Sem.run_bind, Result.andThen, Sem.run], h Z w ν _ ?_, hm μ ra.2 rb.2⟩
    cases p
    · exact rb.1
    · exact ra.1

/-! ### Slices that are written out -/
theorem fill_seq {sz : Nat} : ∀ (vs : List Value) (n i0 : Nat) (cells : Array Value), (∀ v, v ∈ vs → v.cells.size = sz) → i0 + vs.length ≤ n → cells.size = n * sz →
    Instr.fill (fun i => some (i * sz, sz)) cells ((vs.zipIdx i0).map fun p => (p.2, p.1)) = some (cells.toList.take (i0 * sz) ++ (vs.flatMap fun v => v.cells.toList) ++ cells.toList.drop ((i0 + vs.length) * sz)).toArray := by
  intro vs
  induction vs with
  | nil => intro n i0 cells _ _ _; simp [Instr.fill]
  | cons v vs ih =>
    intro n i0 cells hv hle hsz
    have hv0 := hv v List.mem_cons_self
    have hmul : i0 * sz + sz ≤ n * sz := by rw [← Nat.succ_mul]; exact Nat.mul_le_mul_right _ (by simp at hle; omega)
    simp only [List.zipIdx_cons, List.map_cons, Instr.fill, hv0]
    rw [if_neg (by simp; omega)]
    have hs := set_cells (i0 * sz) v.cells cells (by omega)
    rw [hs]
    have hvl : v.cells.toList.length = sz := by simpa using hv0
    rw [ih n (i0 + 1) _ (fun u hu => hv u (List.mem_cons_of_mem _ hu)) (by simp at hle; omega) (by simp; omega)]
    congr 1
    apply congrArg List.toArray
    have e1 : (i0 + 1) * sz = i0 * sz + sz := Nat.succ_mul ..
    have e2 : (i0 + 1 + vs.length) * sz = i0 * sz + sz + vs.length * sz := by rw [Nat.add_mul, e1]
    have e3 : (i0 + (vs.length + 1)) * sz = i0 * sz + sz + vs.length * sz := by rw [← e2]; congr 1; omega
    simp only [List.flatMap_cons, List.length_cons, e1, e2, e3]
    have a1 : (cells.toList.take (i0 * sz)).length = i0 * sz := by simp; omega
    rw [List.take_append_of_le_length (by simp; omega), List.take_of_length_le (by simp; omega)]
    rw [List.drop_append, List.drop_eq_nil_of_le (by simp; omega), List.nil_append, List.drop_drop]
    have a2 : i0 * sz + sz + vs.length * sz - (List.take (i0 * sz) cells.toList ++ v.cells.toList).length = vs.length * sz := by
      rw [List.length_append, a1, hvl]; omega
    have a3 : i0 * sz + v.cells.size + vs.length * sz = i0 * sz + sz + vs.length * sz := by rw [hv0]
    rw [a2, a3]
    simp only [List.append_assoc]
end

end Go.Proofs.Ytgminhedbeblpaa.Cal
