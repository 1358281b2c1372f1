/- Own texts of the proof, merged, in order. -/
import Derived.Test.YtbcghiagomkadaaS12
set_option linter.unusedVariables false
set_option linter.unusedSimpArgs false
namespace Go.Proofs.Ytbcghiagomkadaa.Cal
open Go Pl
theorem Zhw : ∀ {l : List Bool} {t : Nat}, t < l.length → l.getD t false = false → (l.set t true).count false + 1 = l.count false
  | [], t, h, _ => absurd h (Nat.not_lt_zero t)
  | a :: l, 0, _, h2 => by
    have : a = false := h2
    subst this
    simp
  | a :: l, t + 1, h, h2 => by
    have := Zhw (l := l) (t := t) (by simpa using h) h2
    rw [List.set_cons_succ, List.count_cons, List.count_cons]; omega
/-- What holds while positions behind s are looked for: l those to be looked at. -/
structure FI (n : Nat) (x : List (List Int)) (ok : Nat → Prop) (s : Nat) (out : List Bool) (l : List Nat) (ex : Nat → Prop) : Prop where
  len : out.length = n
  lb : ∀ u, u ∈ l → u < n
  rc : ∀ u, u < n → out.getD u false = true → ∃ t, Ed (rws x) ok s t ∧ Rch (Ed (rws x) ok) t u
  ls : ∀ u, u ∈ l → u = s ∨ out.getD u false = true
  cl : ∀ u, u < n → (u = s ∨ out.getD u false = true) → u ∈ l ∨ ex u ∨ ∀ t, Ed (rws x) ok u t → out.getD t false = true
  ll : l.length + out.count false ≤ n + 1
structure FwS where
  out : List Bool
  l : List Nat
structure FwJ where
  out : List Bool
  l : List Nat
  r : Nat
section
variable {n : Nat} {x : List (List Int)} {ok : Nat → Prop} {s v : Nat} {out : List Bool} {l : List Nat}
theorem FI_begin (hs : s < n) : FI n x ok s (List.replicate n false) [s] fun _ => False := by
  have h0 : ∀ u, (List.replicate n false).getD u false = false := fun u => by
    rw [List.getD_eq_getElem?_getD, List.getElem?_replicate]; split <;> rfl
  refine { len := List.length_replicate, lb := fun u h => by rw [List.mem_singleton.1 h]; exact hs, rc := fun u _ h => ?_, ls := fun u h => .inl (List.mem_singleton.1 h), cl := fun u _ h => ?_, ll := by simp; omega }
  · rw [h0 u] at h; cases h
  · rcases h with h | h
    · exact .inl (List.mem_singleton.2 h)
    · rw [h0 u] at h; cases h
theorem FI_pop (H : FI n x ok s out (l ++ [v]) fun _ => False) : FI n x ok s out l (fun u => u = v) ∧ v < n ∧ (v = s ∨ out.getD v false = true) := by
  have hv : v ∈ l ++ [v] := List.mem_append_right _ List.mem_cons_self
  refine ⟨{ len := H.len, lb := fun u h => H.lb u (List.mem_append_left _ h), rc := H.rc, ls := fun u h => H.ls u (List.mem_append_left _ h), cl := fun u hu h => ?_, ll := ?_ }, H.lb v hv, H.ls v hv⟩
  · rcases H.cl u hu h with h | h | h
    · rcases List.mem_append.1 h with h | h
      · exact .inl h
      · exact .inr (.inl (List.mem_singleton.1 h))
    · exact h.elim
    · exact .inr (.inr h)
  · have := H.ll
    rw [List.length_append] at this
    omega
theorem FI_add (H : FI n x ok s out l fun u => u = v) (hv : v < n) (hs : v = s ∨ out.getD v false = true) {t : Nat} (ht : t < n) (he : Ed (rws x) ok v t) (ho : out.getD t false = false) :
    FI n x ok s (out.set t true) (l ++ [t]) fun u => u = v := by
  have htl : t < out.length := by rw [H.len]; exact ht
  have hgd : ∀ u, (out.set t true).getD u false = if u = t then true else out.getD u false := fun u => Zch htl
  refine { len := by rw [List.length_set]; exact H.len, lb := fun u h => ?_, rc := fun u hu h => ?_, ls := fun u h => ?_, cl := fun u hu h => ?_, ll := ?_ }
  · rcases List.mem_append.1 h with h | h
    · exact H.lb u h
    · rw [List.mem_singleton.1 h]; exact ht
  · rw [hgd] at h
    by_cases e : u = t
    · subst e
      rcases hs with rfl | h2
      · exact ⟨u, he, .refl _⟩
      · obtain ⟨t', h3, h4⟩ := H.rc v hv h2
        exact ⟨t', h3, .step h4 he⟩
    · rw [if_neg e] at h; exact H.rc u hu h
  · rw [hgd]
    rcases List.mem_append.1 h with h | h
    · rcases H.ls u h with h | h
      · exact .inl h
      · right; split
        · rfl
        · exact h
    · right; rw [if_pos (List.mem_singleton.1 h)]
  · rw [hgd] at h
    by_cases e : u = t
    · exact .inl (List.mem_append_right _ (List.mem_singleton.2 e))
    · rw [if_neg e] at h
      rcases H.cl u hu h with h | h | h
      · exact .inl (List.mem_append_left _ h)
      · exact .inr (.inl h)
      · refine .inr (.inr fun w hw => ?_)
        rw [hgd]; split
        · rfl
        · exact h w hw
  · have h1 := Zhw htl ho
    have h2 := H.ll
    rw [List.length_append, List.length_singleton]; omega
theorem FI_end (H : FI n x ok s out l fun u => u = v) (h : ∀ t, Ed (rws x) ok v t → out.getD t false = true) : FI n x ok s out l fun _ => False :=
  { H with cl := fun u hu hs => (H.cl u hu hs).elim .inl fun h1 => h1.elim (fun h1 => by subst h1; exact .inr (.inr h)) fun h1 => .inr (.inr h1) }
theorem FI_done (H : FI n x ok s out [] fun _ => False) (hs : s < n) (hrow : ∀ v, v < n → ∀ t, t ∈ rws x v → t < n) {u : Nat} (hu : u < n) :
    out.getD u false = true ↔ ∃ t, Ed (rws x) ok s t ∧ Rch (Ed (rws x) ok) t u := by
  constructor
  · exact H.rc u hu
  · rintro ⟨t, h1, h2⟩
    have hcl : ∀ u, u < n → (u = s ∨ out.getD u false = true) → ∀ t, Ed (rws x) ok u t → out.getD t false = true := fun u hu h => by
      rcases H.cl u hu h with h | h | h
      · exact absurd h List.not_mem_nil
      · exact h.elim
      · exact h
    have ht := hcl s hs (.inl rfl) t h1
    have htn := hrow s hs t h1.1
    exact (h2.closed (C := fun v => v < n ∧ out.getD v false = true) (fun a b ha hb => ⟨hrow a ha.1 b hb.1, hcl a ha.1 (.inr ha.2) b hb⟩) ⟨htn, ht⟩).2
end
open Classical in
noncomputable def reachL (g : Gm) (s : Nat) (top : Int) : List Bool := (List.range g.own.length).map fun v => decide (Rch1 g top s v)
theorem reachL_len {g : Gm} {s : Nat} {top : Int} : (reachL g s top).length = g.own.length := by simp [reachL]
theorem Zde {g : Gm} {s : Nat} {top : Int} {v : Nat} (hv : v < g.own.length) : (reachL g s top).getD v false = true ↔ Rch1 g top s v := by
  simp [reachL, List.getD_eq_getElem?_getD, hv]
theorem reachL_eq {g : Gm} {s : Nat} {top : Int} {l : List Bool} (hl : l.length = g.own.length) (h : ∀ v, v < g.own.length → (l.getD v false = true ↔ Rch1 g top s v)) : l = reachL g s top := by
  refine List.ext_getElem (by rw [hl, reachL_len]) fun j h1 h2 => ?_
  have h3 := h j (by omega)
  have h4 := Zde (g := g) (s := s) (top := top) (v := j) (by omega)
  rw [List.getD_eq_getElem?_getD, List.getElem?_eq_getElem h1] at h3
  rw [List.getD_eq_getElem?_getD, List.getElem?_eq_getElem h2] at h4
  simp only [Option.getD_some] at h3 h4
  exact Bool.eq_iff_iff.2 (h3.trans h4.symm)
/-! The reference's own two loops -/
noncomputable def rgood (g : Gm) (pl : Int) (v : Nat) : Bool := decide (g.pri.getD v 0 % 2 = pl) && (reachL g v (g.pri.getD v 0)).getD v false
theorem Zef {g : Gm} {pl : Int} {v : Nat} (hv : v < g.own.length) : rgood g pl v = true ↔ again g pl v := by
  unfold rgood again
  rw [Bool.and_eq_true, decide_eq_true_iff, Zde hv]
/-- The first j positions that are reached, or the position itself. -/
noncomputable def rsome (g : Gm) (pl : Int) (v : Nat) : Nat → Bool
  | 0 => rgood g pl v
  | j + 1 => rsome g pl v j || (reachL g v 60).getD j false && rgood g pl j
theorem rsome_iff {g : Gm} {pl : Int} {v : Nat} : ∀ {j : Nat}, rsome g pl v j = true ↔ rgood g pl v = true ∨ ∃ w, w < j ∧ (reachL g v 60).getD w false = true ∧ rgood g pl w = true
  | 0 => ⟨.inl, fun h => h.elim id fun ⟨w, h, _⟩ => absurd h (Nat.not_lt_zero w)⟩
  | j + 1 => by
    rw [rsome, Bool.or_eq_true, rsome_iff, Bool.and_eq_true]
    constructor
    · rintro ((h | ⟨w, h1, h2⟩) | h)
      · exact .inl h
      · exact .inr ⟨w, by omega, h2⟩
      · exact .inr ⟨j, by omega, h⟩
    · rintro (h | ⟨w, h1, h2⟩)
      · exact .inl (.inl h)
      · by_cases e : w = j
        · subst e; exact .inr h2
        · exact .inl (.inr ⟨w, by omega, h2⟩)
theorem rsome_all {g : Gm} {pl : Int} (hpr : ∀ v, v < g.own.length → g.pri.getD v 0 ≤ 60) (hrow : ∀ v, v < g.own.length → ∀ t, t ∈ rws g.nxt v → t < g.own.length) {v : Nat} (hv : v < g.own.length) : rsome g pl v g.own.length = true ↔ alone g pl v := by
  rw [rsome_iff]
  unfold alone
  constructor
  · rintro (h | ⟨w, h1, h2, h3⟩)
    · exact ⟨v, hv, (Zef hv).1 h, .refl _⟩
    · obtain ⟨t, h4, h5⟩ := (Zde h1).1 h2
      exact ⟨w, h1, (Zef h1).1 h3, RchA.cons h4.1 (Rch.mono (fun a b h => h.1) h5)⟩
  · rintro ⟨w, h1, h2, h3⟩
    rcases Rch.head h3 with e | ⟨t, h4, h5⟩
    · subst e; exact .inl ((Zef h1).2 h2)
    · refine .inr ⟨w, h1, (Zde h1).2 ⟨t, ⟨h4, hpr t (hrow v hv t h4)⟩, ?_⟩, (Zef h1).2 h2⟩
      have ht := hrow v hv t h4
      have : ∀ {a b : Nat}, Rch (fun a b => b ∈ rws g.nxt a) a b → a < g.own.length → Rch (Ed (rws g.nxt) (okP g.pri 60)) a b ∧ b < g.own.length := fun {a b} h ha => by
        induction h with
        | refl => exact ⟨.refl _, ha⟩
        | step _ e ih =>
          have hb := hrow _ ih.2 _ e
          exact ⟨.step ih.1 ⟨e, hpr _ hb⟩, hb⟩
      exact (this h5 ht).1
noncomputable def reachS : Spec
  | [.agg (.cons (.roI o) (.cons (.roI p) (.cons (.roII x) .nil))), .int .i64 f, .int .i64 top] => some ⟨validB ⟨o, p, x⟩ = true ∧ 0 ≤ f ∧ f < (o.length : Int), .roB (reachL ⟨o, p, x⟩ f.toNat top), none⟩
  | _ => none
def spNo : Nat → Option Spec := fun _ => none
theorem Zb1 : SpOK Try.prog spNo := fun f S h => by cases h
set_option maxRecDepth 4000 in
set_option maxHeartbeats 4000000 in
theorem reaches_ok : FSpec Try.prog 51 reachS := by
  refine Zba htb (fn := Try.f51) (by kernel_rfl) (by kernel_rfl) rfl (fun args r hS => ?_) (fun args r hS hob hl => ?_)
  · unfold reachS at hS; split at hS <;> first | (cases hS; done) | (cases hS; exact Nat.le_of_ble_eq_true rfl)
  unfold reachS at hS
  split at hS
  case h_2 => cases hS
  rename_i o p x f top
  simp only [Option.some.injEq] at hS
  subst hS
  simp only [lenP, mkL, lim] at hl
  dsimp only at hob
  obtain ⟨hv, hf0, hf1⟩ := hob
  obtain ⟨f, rfl⟩ := Int.eq_ofNat_of_zero_le hf0
  have hV := validB_iff.1 hv
  obtain ⟨hn, hpl, hxl, hpos⟩ := id hV
  simp only [Gm.n] at hn hpl hxl
  have hrl : ∀ v, v < o.length → (x.getD v []).length ≤ 64 := fun v h => by
    obtain ⟨⟨a1, a2, a3, a4, _, a6⟩, _⟩ := hpos v (by simp only [Gm.n]; omega)
    exact a6
  have hrb : ∀ v, v < o.length → ∀ j, j < (x.getD v []).length → 0 ≤ (x.getD v []).getD j 0 ∧ (x.getD v []).getD j 0 < o.length := fun v h j hj => by
    obtain ⟨_, hr⟩ := hpos v (by simp only [Gm.n]; omega)
    exact ⟨(hr j hj).1, (hr j hj).2.1⟩
  repeat' first
    | with_reducible first | refine Zas ?_ | refine Zao ?_ | refine Zac ?_ | refine Zad ?_ | refine Zai ?_ | refine Zaq ?_ | refine Zah ?_ | refine Zak ?_ | refine Zar ?_ | refine Zat ?_ | refine Zap ?_ | refine Zam ?_ | refine Zaa ?_ | refine Zae ?_ | refine Zab ?_ | refine Zal ?_
    | ((with_reducible refine Zaj ?_ ?_); exact rfl)
    | ((with_reducible refine Zau ?_); refine Zan rfl ?_ ?_ <;> intro hb <;> (try simp only [zH] at hb))
    | ((with_reducible refine Zav 2 ?_ ?_); (· exact rfl); (first | refine Zaf htb hmz Zb1 (fun _ => false) rfl rfl ?_ | refine Zag hmo htb hmz Zb1 (fun _ => false) rfl rfl (by kernel_rfl) ?_); intro m' e' l' ob h; simp only [zE0, zE1, zE2, zE3, zE4, zE5, evp, evx, ev1, evLoad, evStore, evBin, isBoolK, forall_const, z38, tb, Nat.reduceAdd, Nat.reduceSub, Nat.reduceMul, Nat.reduceEqDiff, Nat.reduceLeDiff, Nat.reduceLT, Nat.reduceBEq, Nat.reduceBNe, ↓reduceIte, reduceIte, spNo] at h; obtain ⟨rfl, rfl, rfl, rfl⟩ := h; refine ⟨?_, ?_⟩)
    | ((with_reducible refine Ob.mk ?_); first | exact trivial | (intros; omega) | ((repeat' first | apply And.intro | (intro hg; have hg' := hg; try simp only [zH] at hg')) <;> first | assumption | omega | (simp only [zH]; omega)))
  (refine Zaf htb hmz Zb1 (fun i => Nat.beq i 1) rfl rfl ?_; intro m' e' l' ob h; simp only [zE0, zE1, zE2, zE3, zE4, zE5, evp, evx, ev1, evLoad, evStore, evBin, isBoolK, forall_const, z38, tb, Nat.reduceAdd, Nat.reduceSub, Nat.reduceMul, Nat.reduceEqDiff, Nat.reduceLeDiff, Nat.reduceLT, Nat.reduceBEq, Nat.reduceBNe, ↓reduceIte, reduceIte, spNo] at h; obtain ⟨rfl, rfl, rfl, rfl⟩ := h; refine ⟨?_, ?_⟩)
  · first | ((with_reducible refine Ob.mk ?_); first | exact trivial | (intros; omega) | ((repeat' first | apply And.intro | (intro hg; have hg' := hg; try simp only [zH] at hg')) <;> first | assumption | omega | (simp only [zH]; omega))) | skip
  repeat' first
    | with_reducible first | refine Zas ?_ | refine Zao ?_ | refine Zac ?_ | refine Zad ?_ | refine Zai ?_ | refine Zaq ?_ | refine Zah ?_ | refine Zak ?_ | refine Zar ?_ | refine Zat ?_ | refine Zap ?_ | refine Zam ?_ | refine Zaa ?_ | refine Zae ?_ | refine Zab ?_ | refine Zal ?_
    | ((with_reducible refine Zaj ?_ ?_); exact rfl)
    | ((with_reducible refine Zau ?_); refine Zan rfl ?_ ?_ <;> intro hb <;> (try simp only [zH] at hb))
    | ((with_reducible refine Za0 ?_); (first | refine Zaf htb hmz Zb1 (fun _ => false) rfl rfl ?_ | refine Zag hmo htb hmz Zb1 (fun _ => false) rfl rfl (by kernel_rfl) ?_); intro m' e' l' ob h; simp only [zE0, zE1, zE2, zE3, zE4, zE5, evp, evx, ev1, evLoad, evStore, evBin, isBoolK, forall_const, z38, tb, Nat.reduceAdd, Nat.reduceSub, Nat.reduceMul, Nat.reduceEqDiff, Nat.reduceLeDiff, Nat.reduceLT, Nat.reduceBEq, Nat.reduceBNe, ↓reduceIte, reduceIte, spNo] at h; obtain ⟨rfl, rfl, rfl, rfl⟩ := h; refine ⟨?_, ?_⟩)
    | ((with_reducible refine Ob.mk ?_); first | exact trivial | (intros; omega) | ((repeat' first | apply And.intro | (intro hg; have hg' := hg; try simp only [zH] at hg')) <;> first | assumption | omega | (simp only [zH]; omega)))
  refine Za1 (τ := FwS) (fun s => FI o.length x (okP p top) f s.out s.l fun _ => False) (fun s => ⟨10, [(8, .own 8), (7, .own 5), (3, .rop (.agg (.cons (.roI o) (.cons (.roI p) (.cons (.roII x) .nil))))), (2, .int .i64 top)],
    [(5, some (.bools s.out)), (8, some (.ints (s.l.map fun v : Nat => (v : Int))))], []⟩) (fun s => 2 * s.out.count false + s.l.length) ⟨List.replicate o.length false, [f]⟩ [] ?_ (FI_begin (by omega)) ?_
  · (refine ⟨rfl, ?_, ?_⟩ <;> simp only [zE0, zE1, zE2, zE3, zE4, zE5, evp, evx, ev1, evLoad, evStore, evBin, isBoolK, forall_const, z38, tb, Nat.reduceAdd, Nat.reduceSub, Nat.reduceMul, Nat.reduceEqDiff, Nat.reduceLeDiff, Nat.reduceLT, Nat.reduceBEq, Nat.reduceBNe, ↓reduceIte, reduceIte, spNo, zI])
  rintro ⟨out, l⟩ hd
  have hol := hd.len
  have hll := hd.ll
  dsimp only at hll hol
  dsimp only
  have hlm : (l.map fun v : Nat => (v : Int)).length = l.length := List.length_map ..
  repeat' first
    | with_reducible first | refine Zas ?_ | refine Zao ?_ | refine Zac ?_ | refine Zad ?_ | refine Zai ?_ | refine Zaq ?_ | refine Zah ?_ | refine Zak ?_ | refine Zar ?_ | refine Zat ?_ | refine Zap ?_ | refine Zam ?_ | refine Zaa ?_ | refine Zae ?_ | refine Zab ?_ | refine Zal ?_
    | ((with_reducible refine Zaj ?_ ?_); exact rfl)
    | ((with_reducible refine Zau ?_); refine Zan rfl ?_ ?_ <;> intro hb <;> (try simp only [zH] at hb))
    | ((with_reducible refine Zav 4 ?_ ?_); (· exact rfl); (with_reducible refine Zav 13 ?_ ?_); (· exact rfl); (first | refine Zaf htb hmz Zb1 (fun _ => false) rfl rfl ?_ | refine Zag hmo htb hmz Zb1 (fun _ => false) rfl rfl (by kernel_rfl) ?_); intro m' e' l' ob h; simp only [zE0, zE1, zE2, zE3, zE4, zE5, evp, evx, ev1, evLoad, evStore, evBin, isBoolK, forall_const, z38, tb, Nat.reduceAdd, Nat.reduceSub, Nat.reduceMul, Nat.reduceEqDiff, Nat.reduceLeDiff, Nat.reduceLT, Nat.reduceBEq, Nat.reduceBNe, ↓reduceIte, reduceIte, spNo] at h; obtain ⟨rfl, rfl, rfl, rfl⟩ := h; refine ⟨?_, ?_⟩)
    | ((with_reducible refine Ob.mk ?_); first | exact trivial | (intros; omega) | ((repeat' first | apply And.intro | (intro hg; have hg' := hg; try simp only [zH] at hg')) <;> first | assumption | omega | (simp only [zH]; omega)))
  · obtain ⟨q, v, rfl⟩ : ∃ q v, l = q ++ [v] := by
      rcases List.eq_nil_or_concat l with h | ⟨q, v, h⟩
      · subst h; simp at hb
      · exact ⟨q, v, by rw [h, List.concat_eq_append]⟩
    obtain ⟨hP, hvn, hvs⟩ := FI_pop hd
    have hpl2 : (q ++ [v]).length = q.length + 1 := by rw [List.length_append]; rfl
    repeat' first
      | with_reducible first | refine Zas ?_ | refine Zao ?_ | refine Zac ?_ | refine Zad ?_ | refine Zai ?_ | refine Zaq ?_ | refine Zah ?_ | refine Zak ?_ | refine Zar ?_ | refine Zat ?_ | refine Zap ?_ | refine Zam ?_ | refine Zaa ?_ | refine Zae ?_ | refine Zab ?_ | refine Zal ?_
      | ((with_reducible refine Zaj ?_ ?_); exact rfl)
      | ((with_reducible refine Zau ?_); refine Zan rfl ?_ ?_ <;> intro hb <;> (try simp only [zH] at hb))
      | ((with_reducible refine Zav 5 ?_ ?_); (· exact rfl); (first | refine Zaf htb hmz Zb1 (fun _ => false) rfl rfl ?_ | refine Zag hmo htb hmz Zb1 (fun _ => false) rfl rfl (by kernel_rfl) ?_); intro m' e' l' ob h; simp only [zE0, zE1, zE2, zE3, zE4, zE5, evp, evx, ev1, evLoad, evStore, evBin, isBoolK, forall_const, z38, tb, Nat.reduceAdd, Nat.reduceSub, Nat.reduceMul, Nat.reduceEqDiff, Nat.reduceLeDiff, Nat.reduceLT, Nat.reduceBEq, Nat.reduceBNe, ↓reduceIte, reduceIte, spNo] at h; obtain ⟨rfl, rfl, rfl, rfl⟩ := h; refine ⟨?_, ?_⟩)
      | ((with_reducible refine Ob.mk ?_); first | exact trivial | (intros; omega) | ((repeat' first | apply And.intro | (intro hg; have hg' := hg; try simp only [zH] at hg')) <;> first | assumption | omega | (simp only [zH]; omega)))
    rw [map_last]
    repeat' first
      | with_reducible first | refine Zas ?_ | refine Zao ?_ | refine Zac ?_ | refine Zad ?_ | refine Zai ?_ | refine Zaq ?_ | refine Zah ?_ | refine Zak ?_ | refine Zar ?_ | refine Zat ?_ | refine Zap ?_ | refine Zam ?_ | refine Zaa ?_ | refine Zae ?_ | refine Zab ?_ | refine Zal ?_
      | ((with_reducible refine Zaj ?_ ?_); exact rfl)
      | ((with_reducible refine Zau ?_); refine Zan rfl ?_ ?_ <;> intro hb <;> (try simp only [zH] at hb))
      | ((with_reducible refine Zav 6 ?_ ?_); (· exact rfl); (first | refine Zaf htb hmz Zb1 (fun _ => false) rfl rfl ?_ | refine Zag hmo htb hmz Zb1 (fun _ => false) rfl rfl (by kernel_rfl) ?_); intro m' e' l' ob h; simp only [zE0, zE1, zE2, zE3, zE4, zE5, evp, evx, ev1, evLoad, evStore, evBin, isBoolK, forall_const, z38, tb, Nat.reduceAdd, Nat.reduceSub, Nat.reduceMul, Nat.reduceEqDiff, Nat.reduceLeDiff, Nat.reduceLT, Nat.reduceBEq, Nat.reduceBNe, ↓reduceIte, reduceIte, spNo] at h; obtain ⟨rfl, rfl, rfl, rfl⟩ := h; refine ⟨?_, ?_⟩)
      | ((with_reducible refine Ob.mk ?_); first | exact trivial | (intros; omega) | ((repeat' first | apply And.intro | (intro hg; have hg' := hg; try simp only [zH] at hg')) <;> first | assumption | omega | (simp only [zH]; omega)))
    rw [map_cut]
    have hqm : (q.map fun v : Nat => (v : Int)).length = q.length := List.length_map ..
    have hlq := hP.ll
    have hv0 : ((v : Nat) : Int).toNat = v := Int.toNat_natCast v
    repeat' first
      | with_reducible first | refine Zas ?_ | refine Zao ?_ | refine Zac ?_ | refine Zad ?_ | refine Zai ?_ | refine Zaq ?_ | refine Zah ?_ | refine Zak ?_ | refine Zar ?_ | refine Zat ?_ | refine Zap ?_ | refine Zam ?_ | refine Zaa ?_ | refine Zae ?_ | refine Zab ?_ | refine Zal ?_
      | ((with_reducible refine Zaj ?_ ?_); exact rfl)
      | ((with_reducible refine Zau ?_); refine Zan rfl ?_ ?_ <;> intro hb <;> (try simp only [zH] at hb))
      | ((with_reducible refine Za0 ?_); (first | refine Zaf htb hmz Zb1 (fun _ => false) rfl rfl ?_ | refine Zag hmo htb hmz Zb1 (fun _ => false) rfl rfl (by kernel_rfl) ?_); intro m' e' l' ob h; simp only [zE0, zE1, zE2, zE3, zE4, zE5, evp, evx, ev1, evLoad, evStore, evBin, isBoolK, forall_const, z38, tb, Nat.reduceAdd, Nat.reduceSub, Nat.reduceMul, Nat.reduceEqDiff, Nat.reduceLeDiff, Nat.reduceLT, Nat.reduceBEq, Nat.reduceBNe, ↓reduceIte, reduceIte, spNo] at h; obtain ⟨rfl, rfl, rfl, rfl⟩ := h; refine ⟨?_, ?_⟩)
      | ((with_reducible refine Ob.mk ?_); first | exact trivial | (intros; omega) | ((repeat' first | apply And.intro | (intro hg; have hg' := hg; try simp only [zH] at hg')) <;> first | assumption | omega | (simp only [zH]; omega)))
    have hrlv := hrl v hvn
    have hrbv := hrb v hvn
    have hgr : ∀ j, (rws x v).getD j 0 = ((x.getD v []).getD j 0).toNat := fun j => Zf6
    have hgl : (rws x v).length = (x.getD v []).length := Zfd
    generalize hrw : x.getD v [] = rw at *
    refine Za1 (τ := FwJ) (fun t => t.r ≤ rw.length ∧ (FI o.length x (okP p top) f t.out t.l fun u => u = v) ∧ (v = f ∨ t.out.getD v false = true) ∧ 2 * t.out.count false + t.l.length < 2 * out.count false + (q ++ [v]).length ∧ ∀ w, w ∈ (rws x v).take t.r → okP p top w → t.out.getD w false = true) (fun t => ⟨33, [(38, .int .i64 t.r), (37, .int .i64 rw.length), (36, .roI rw), (8, .own 24), (7, .own 5), (3, .rop (.agg (.cons (.roI o) (.cons (.roI p) (.cons (.roII x) .nil))))), (2, .int .i64 top)],
      [(5, some (.bools t.out)), (24, some (.ints (t.l.map fun v : Nat => (v : Int))))], []⟩) (fun t => rw.length - t.r) ⟨out, q, 0⟩ [] ?_ ⟨Nat.zero_le _, hP, hvs, by dsimp only; omega, fun w hw => by simp at hw⟩ ?_
    · (refine ⟨rfl, ?_, ?_⟩ <;> simp only [zE0, zE1, zE2, zE3, zE4, zE5, evp, evx, ev1, evLoad, evStore, evBin, isBoolK, forall_const, z38, tb, Nat.reduceAdd, Nat.reduceSub, Nat.reduceMul, Nat.reduceEqDiff, Nat.reduceLeDiff, Nat.reduceLT, Nat.reduceBEq, Nat.reduceBNe, ↓reduceIte, reduceIte, spNo, zI])
    clear hP hvs hlq hqm hd hol hll
    rintro ⟨out2, l, r⟩ ⟨hr, hP, hvs, hms, hdn⟩
    dsimp only at hr hms hvs hdn hP ⊢
    have hol := hP.len
    have hll := hP.ll
    have hlm : (l.map fun v : Nat => (v : Int)).length = l.length := List.length_map ..
    have hrbv := hrbv r
    have hgr := hgr r
    repeat' first
      | with_reducible first | refine Zas ?_ | refine Zao ?_ | refine Zac ?_ | refine Zad ?_ | refine Zai ?_ | refine Zaq ?_ | refine Zah ?_ | refine Zak ?_ | refine Zar ?_ | refine Zat ?_ | refine Zap ?_ | refine Zam ?_ | refine Zaa ?_ | refine Zae ?_ | refine Zab ?_ | refine Zal ?_
      | ((with_reducible refine Zaj ?_ ?_); exact rfl)
      | ((with_reducible refine Zau ?_); refine Zan rfl ?_ ?_ <;> intro hb <;> (try simp only [zH] at hb))
      | ((with_reducible refine Za0 ?_); (first | refine Zaf htb hmz Zb1 (fun _ => false) rfl rfl ?_ | refine Zag hmo htb hmz Zb1 (fun _ => false) rfl rfl (by kernel_rfl) ?_); intro m' e' l' ob h; simp only [zE0, zE1, zE2, zE3, zE4, zE5, evp, evx, ev1, evLoad, evStore, evBin, isBoolK, forall_const, z38, tb, Nat.reduceAdd, Nat.reduceSub, Nat.reduceMul, Nat.reduceEqDiff, Nat.reduceLeDiff, Nat.reduceLT, Nat.reduceBEq, Nat.reduceBNe, ↓reduceIte, reduceIte, spNo] at h; obtain ⟨rfl, rfl, rfl, rfl⟩ := h; refine ⟨?_, ?_⟩)
      | ((with_reducible refine Ob.mk ?_); first | exact trivial | (intros; omega) | ((repeat' first | apply And.intro | (intro hg; have hg' := hg; try simp only [zH] at hg')) <;> first | assumption | omega | (simp only [zH]; omega)))
    · have hrr : r < rw.length := by omega
      obtain ⟨u1, u2⟩ := hrbv hrr
      have hed : Ed (rws x) (okP p top) v (rw.getD r 0).toNat := ⟨by
        rw [← hgr, List.getD_eq_getElem?_getD, List.getElem?_eq_getElem (by omega)]; exact List.getElem_mem _, hb.1⟩
      have hun : (rw.getD r 0).toNat < o.length := by omega
      have hcf := Zhw (l := out2) (t := (rw.getD r 0).toNat) (by omega) hb.2
      have hgs : ∀ u, (out2.set (rw.getD r 0).toNat true).getD u false = if u = (rw.getD r 0).toNat then true else out2.getD u false := fun u => Zch (by omega)
      refine back ⟨out2.set (rw.getD r 0).toNat true, l ++ [(rw.getD r 0).toNat], r + 1⟩ [(24, 58)] ?_ ⟨by dsimp only; omega, FI_add hP hvn hvs hun hed hb.2, ?_, ?_, fun w hw ho => ?_⟩ (by dsimp only; omega)
      · (refine ⟨rfl, ?_, ?_⟩ <;> simp only [zE0, zE1, zE2, zE3, zE4, zE5, evp, evx, ev1, evLoad, evStore, evBin, isBoolK, forall_const, z38, tb, Nat.reduceAdd, Nat.reduceSub, Nat.reduceMul, Nat.reduceEqDiff, Nat.reduceLeDiff, Nat.reduceLT, Nat.reduceBEq, Nat.reduceBNe, ↓reduceIte, reduceIte, spNo, zI])
        rw [List.map_append, List.map_cons, List.map_nil]
        have : (((rw.getD r 0).toNat : Nat) : Int) = rw.getD r 0 := by omega
        rw [this]
      · dsimp only
        rw [hgs]
        rcases hvs with h | h
        · exact .inl h
        · right; split
          · rfl
          · exact h
      · dsimp only
        rw [List.length_append, List.length_singleton]; omega
      · dsimp only at hw ⊢
        rw [hgs]
        split
        · rfl
        · rename_i hne
          rw [Zf3 (d := 0) (by omega), hgr] at hw
          rcases List.mem_append.1 hw with h | h
          · exact hdn w h ho
          · exact absurd (List.mem_singleton.1 h) hne
    · have hrr : r < rw.length := by omega
      refine back ⟨out2, l, r + 1⟩ [] ?_ ⟨by dsimp only; omega, hP, hvs, hms, fun w hw ho => ?_⟩ (by dsimp only; omega)
      · (refine ⟨rfl, ?_, ?_⟩ <;> simp only [zE0, zE1, zE2, zE3, zE4, zE5, evp, evx, ev1, evLoad, evStore, evBin, isBoolK, forall_const, z38, tb, Nat.reduceAdd, Nat.reduceSub, Nat.reduceMul, Nat.reduceEqDiff, Nat.reduceLeDiff, Nat.reduceLT, Nat.reduceBEq, Nat.reduceBNe, ↓reduceIte, reduceIte, spNo, zI])
      · dsimp only at hw ⊢
        rw [Zf3 (d := 0) (by omega), hgr] at hw
        rcases List.mem_append.1 hw with h | h
        · exact hdn w h ho
        · have e := List.mem_singleton.1 h
          rw [e] at ho ⊢
          rcases hb with h2 | h2
          · unfold okP at ho; omega
          · exact h2
    · have hre : r = rw.length := by omega
      subst hre
      refine back ⟨out2, l⟩ [(8, 24)] ?_ (FI_end hP fun t ht => hdn t ?_ ht.2) (by dsimp only; omega)
      · (refine ⟨rfl, ?_, ?_⟩ <;> simp only [zE0, zE1, zE2, zE3, zE4, zE5, evp, evx, ev1, evLoad, evStore, evBin, isBoolK, forall_const, z38, tb, Nat.reduceAdd, Nat.reduceSub, Nat.reduceMul, Nat.reduceEqDiff, Nat.reduceLeDiff, Nat.reduceLT, Nat.reduceBEq, Nat.reduceBNe, ↓reduceIte, reduceIte, spNo, zI])
      · rw [List.take_of_length_le (by omega)]; exact ht.1
  have hl0 : l = [] := by
    cases l with
    | nil => rfl
    | cons a l => simp only [List.map_cons, List.length_cons] at hb; omega
  subst hl0
  refine Zbv 5 (.roB out) (by simp only [Zax, Za4, fzE, fzA, fzR, fzB, set1, nbeq, Nat.reduceEqDiff, decide_true, decide_false, ↓reduceIte, reduceIte, cond_true, cond_false, List.take_length, Option.some.injEq]; rfl) (by first | exact rfl | (refine ⟨?_, rfl⟩; first | rfl | (intros; rfl))) (by simp only [Zax, Za4, fzE, fzA, fzR, fzB, set1, nbeq, Nat.reduceEqDiff, decide_true, decide_false, ↓reduceIte, reduceIte, cond_true, cond_false, List.take_length, Option.some.injEq]; rfl) (by simp only [Zax, Za4, fzE, fzA, fzR, fzB, set1, nbeq, Nat.reduceEqDiff, decide_true, decide_false, ↓reduceIte, reduceIte, cond_true, cond_false, List.take_length, Option.some.injEq]; rfl) ?_
  repeat' first
    | with_reducible first | refine Zas ?_ | refine Zao ?_ | refine Zac ?_ | refine Zad ?_ | refine Zai ?_ | refine Zaq ?_ | refine Zah ?_ | refine Zak ?_ | refine Zar ?_ | refine Zat ?_ | refine Zap ?_ | refine Zam ?_ | refine Zaa ?_ | refine Zae ?_ | refine Zab ?_ | refine Zal ?_
    | ((with_reducible refine Zaj ?_ ?_); exact rfl)
    | ((with_reducible refine Zau ?_); refine Zan rfl ?_ ?_ <;> intro hb <;> (try simp only [zH] at hb))
    | ((with_reducible refine Za0 ?_); (first | refine Zaf htb hmz Zb1 (fun _ => false) rfl rfl ?_ | refine Zag hmo htb hmz Zb1 (fun _ => false) rfl rfl (by kernel_rfl) ?_); intro m' e' l' ob h; simp only [zE0, zE1, zE2, zE3, zE4, zE5, evp, evx, ev1, evLoad, evStore, evBin, isBoolK, forall_const, z38, tb, Nat.reduceAdd, Nat.reduceSub, Nat.reduceMul, Nat.reduceEqDiff, Nat.reduceLeDiff, Nat.reduceLT, Nat.reduceBEq, Nat.reduceBNe, ↓reduceIte, reduceIte, spNo] at h; obtain ⟨rfl, rfl, rfl, rfl⟩ := h; refine ⟨?_, ?_⟩)
    | ((with_reducible refine Ob.mk ?_); first | exact trivial | (intros; omega) | ((repeat' first | apply And.intro | (intro hg; have hg' := hg; try simp only [zH] at hg')) <;> first | assumption | omega | (simp only [zH]; omega)))
  refine Zay rfl rfl (Zaw rfl ?_ rfl)
  refine congrArg AV.roB (reachL_eq hol fun v hv => ?_)
  exact FI_done hd (by omega) (fun v hv t ht => by
      obtain ⟨j, hj, rfl⟩ := List.getElem_of_mem ht
      rw [Zfd] at hj
      have := hrb v hv j hj
      have e : (rws x v)[j] = (rws x v).getD j 0 := by rw [List.getD_eq_getElem?_getD, List.getElem?_eq_getElem (by rw [Zfd]; exact hj)]; rfl
      rw [e, Zf6]; omega) hv
end Go.Proofs.Ytbcghiagomkadaa.Cal
namespace Go.Proofs.Ytbcghiagomkadaa.Cal
section
open Pl
/-- The steps that end at a priority of at most w's. -/
def Low (E : Nat → Nat → Prop) (pri : Nat → Int) (w a b : Nat) : Prop := E a b ∧ pri b ≤ pri w
/-- A cycle through w on which no priority is greater than w's. -/
def Cyc (E : Nat → Nat → Prop) (pri : Nat → Int) (w : Nat) : Prop := ∃ t, Low E pri w w t ∧ Rch (Low E pri w) t w
theorem Rch.cons {E : Nat → Nat → Prop} {a b c : Nat} (h : E a b) (h2 : Rch E b c) : Rch E a c := Rch.trans (Rch.one h) h2
theorem Rch.uncons {E : Nat → Nat → Prop} {a b : Nat} (h : Rch E a b) : a = b ∨ ∃ t, E a t ∧ Rch E t b := by
  induction h with
  | refl => exact .inl rfl
  | step h e ih =>
    rcases ih with rfl | ⟨t, h1, h2⟩
    · exact .inr ⟨_, e, .refl _⟩
    · exact .inr ⟨t, h1, .step h2 e⟩
/-- The positions of a cycle. -/
def OnC (E : Nat → Nat → Prop) (pri : Nat → Int) (w t z : Nat) : Prop := Rch (Low E pri w) t z ∧ Rch (Low E pri w) z w
/-- A cycle whose steps are steps of another graph. -/
theorem cyc_to {E E' : Nat → Nat → Prop} {pri : Nat → Int} {w t : Nat} (ht : Low E pri w w t) (htw : Rch (Low E pri w) t w) (h : ∀ a b, OnC E pri w t a → OnC E pri w t b → E a b → E' a b) : Cyc E' pri w := by
  have hw : OnC E pri w t w := ⟨htw, .refl _⟩
  refine ⟨t, ⟨h w t hw ⟨.refl _, htw⟩ ht.1, ht.2⟩, ?_⟩
  have key : ∀ c, Rch (Low E pri w) t c → Rch (Low E pri w) c w → Rch (Low E' pri w) t c := by
    intro c hc
    induction hc with
    | refl => intro _; exact .refl _
    | step h1 e ih =>
      intro h2
      have h3 := Rch.cons e h2
      exact .step (ih h3) ⟨h _ _ ⟨h1, h3⟩ ⟨.step h1 e, h2⟩ e.1, e.2⟩
  exact key w htw (.refl _)
variable (own pri : Nat → Int) (sx : Nat → List Nat)
/-- The steps in the positions W of K that p plays by c. -/
def Stp (K : Nat → Prop) (W : Nat → Int) (c : Nat → Nat) (p : Int) (v t : Nat) : Prop := (K v ∧ W v = p) ∧ K t ∧ (own v = p → t = c v) ∧ (own v ≠ p → t ∈ sx v)
/-- p wins its positions of K by c. -/
structure Sol (K : Nat → Prop) (W : Nat → Int) (c : Nat → Nat) (p : Int) : Prop where
  mine : ∀ v, K v → W v = p → own v = p → c v ∈ sx v ∧ K (c v) ∧ W (c v) = p
  his : ∀ v, K v → W v = p → own v ≠ p → ∀ t, t ∈ sx v → K t → W t = p
  cyc : ∀ w, K w → W w = p → pri w % 2 ≠ p → ¬ Cyc (Stp own sx K W c p) pri w
/-- A is T and what q attracts to it in K, by c. -/
structure Atr (K A T : Nat → Prop) (q : Int) (c : Nat → Nat) (r : Nat → Nat) : Prop where
  sub : ∀ v, A v → K v
  base : ∀ v, T v → A v
  mine : ∀ v, A v → ¬ T v → own v = q → c v ∈ sx v ∧ A (c v) ∧ r (c v) < r v
  his : ∀ v, A v → ¬ T v → own v ≠ q → ∀ t, t ∈ sx v → K t → A t ∧ r t < r v
  outm : ∀ v, K v → ¬ A v → own v = q → ∀ t, t ∈ sx v → K t → ¬ A t
  outh : ∀ v, K v → ¬ A v → own v ≠ q → ∃ t, t ∈ sx v ∧ K t ∧ ¬ A t
variable {own pri sx}
variable {K A T R : Nat → Prop} {W W' : Nat → Int} {c c' : Nat → Nat} {r : Nat → Nat} {p q : Int}
theorem Stp.of (h : Sol own pri sx K W c p) {v t : Nat} (e : Stp own sx K W c p v t) : W t = p := by
  obtain ⟨⟨h1, h2⟩, h3, h4, h5⟩ := e
  by_cases ho : own v = p
  · rw [h4 ho]; exact (h.mine v h1 h2 ho).2.2
  · exact h.his v h1 h2 ho t (h5 ho) h3
theorem Sol.congr {c c' : Nat → Nat} (h : Sol own pri sx K W c' p) (hc : ∀ v, K v → W v = p → own v = p → c v = c' v) : Sol own pri sx K W c p := by
  refine ⟨fun v h1 h2 h3 => by rw [hc v h1 h2 h3]; exact h.mine v h1 h2 h3, h.his, fun w h1 h2 h3 => ?_⟩
  rintro ⟨t, ht, htw⟩
  refine h.cyc w h1 h2 h3 (cyc_to ht htw fun a b _ _ e => ?_)
  obtain ⟨⟨e1, e2⟩, e3, e4, e5⟩ := e
  exact ⟨⟨e1, e2⟩, e3, fun ho => by rw [e4 ho, hc a e1 e2 ho], e5⟩
variable {B : Nat → Prop} {W2 : Nat → Int} {cA : Nat → Nat} {rA rB : Nat → Nat}
theorem Atr.congr (h : Atr own sx K A T q c' r) (hc : ∀ v, A v → ¬ T v → own v = q → c v = c' v) : Atr own sx K A T q c r :=
  ⟨h.sub, h.base, fun v h1 h2 h3 => by rw [hc v h1 h2 h3]; exact h.mine v h1 h2 h3, h.his, h.outm, h.outh⟩
theorem Sol.none (h : ∀ v, ¬ K v) : Sol own pri sx K W c p := ⟨fun v hv => absurd hv (h v), fun v hv => absurd hv (h v), fun v hv => absurd hv (h v)⟩
end
end Go.Proofs.Ytbcghiagomkadaa.Cal
namespace Go.Proofs.Ytbcghiagomkadaa.Cal
open Go Pl
noncomputable def aloneoS : Spec
  | [.agg (.cons (.roI o) (.cons (.roI p) (.cons (.roII x) .nil))), .int .i64 q] => some ⟨validB ⟨o, p, x⟩ = true, .own 0, some (.bools (aloneL ⟨o, p, x⟩ q))⟩
  | _ => none
noncomputable def spAlo : Nat → Option Spec
  | 51 => some reachS
  | _ => none
theorem Zbn : SpOK Try.prog spAlo := by
  intro f S h
  unfold spAlo at h
  split at h
  · cases h; exact reaches_ok
  · cases h
set_option maxRecDepth 4000 in
set_option maxHeartbeats 4000000 in
theorem aloneo_ok : FSpec Try.prog 35 aloneoS := by
  refine Zba htb (fn := Try.f35) (by kernel_rfl) (by kernel_rfl) rfl (fun args r hS => ?_) (fun args r hS hob hl => ?_)
  · unfold aloneoS at hS; split at hS <;> first | (cases hS; done) | (cases hS; exact Nat.le_of_ble_eq_true rfl)
  unfold aloneoS at hS
  split at hS
  case h_2 => cases hS
  rename_i o p x pl
  simp only [Option.some.injEq] at hS
  subst hS
  simp only [lenP, mkL, lim] at hl
  dsimp only at hob
  have hv := hob
  have hV := validB_iff.1 hv
  obtain ⟨hn, hpl, hxl, hpos⟩ := id hV
  simp only [Gm.n] at hn hpl hxl
  have hrb : ∀ v, v < o.length → ∀ j, j < (x.getD v []).length → 0 ≤ (x.getD v []).getD j 0 ∧ (x.getD v []).getD j 0 < o.length := fun v h j hj => by
    obtain ⟨_, hr⟩ := hpos v (by simp only [Gm.n]; omega)
    exact ⟨(hr j hj).1, (hr j hj).2.1⟩
  have hpr : ∀ v, v < o.length → 0 ≤ p.getD v 0 ∧ p.getD v 0 ≤ 60 := fun v h => by
    obtain ⟨⟨a1, a2, a3, a4, _, a6⟩, _⟩ := hpos v (by simp only [Gm.n]; omega)
    exact ⟨a3, a4⟩
  have hrow : ∀ v, v < o.length → ∀ t, t ∈ rws x v → t < o.length := fun v hv t ht => by
    obtain ⟨j, hj, rfl⟩ := List.getElem_of_mem ht
    rw [Zfd] at hj
    have := hrb v hv j hj
    have e : (rws x v)[j] = (rws x v).getD j 0 := by rw [List.getD_eq_getElem?_getD, List.getElem?_eq_getElem (by rw [Zfd]; exact hj)]; rfl
    rw [e, Zf6]; omega
  have hRl : ∀ s top, (reachL ⟨o, p, x⟩ s top).length = o.length := fun s top => reachL_len
  have hz : ∀ f : Nat → Bool, List.replicate o.length false = mix f (fun _ => false) o.length 0 := fun f => List.ext_getElem (by simp [mix]) fun j h1 h2 => by simp [mix]
  repeat' first
    | with_reducible first | refine Zas ?_ | refine Zao ?_ | refine Zac ?_ | refine Zad ?_ | refine Zai ?_ | refine Zaq ?_ | refine Zah ?_ | refine Zak ?_ | refine Zar ?_ | refine Zat ?_ | refine Zap ?_ | refine Zam ?_ | refine Zaa ?_ | refine Zae ?_ | refine Zab ?_ | refine Zal ?_
    | ((with_reducible refine Zaj ?_ ?_); exact rfl)
    | ((with_reducible refine Zau ?_); refine Zan rfl ?_ ?_ <;> intro hb <;> (try simp only [zH] at hb))
    | ((with_reducible refine Za0 ?_); (first | refine Zaf htb hmz Zbn (fun _ => false) rfl rfl ?_ | refine Zag hmo htb hmz Zbn (fun _ => false) rfl rfl (by kernel_rfl) ?_); intro m' e' l' ob h; simp only [zE0, zE1, zE2, zE3, zE4, zE5, evp, evx, ev1, evLoad, evStore, evBin, isBoolK, forall_const, z38, tb, Nat.reduceAdd, Nat.reduceSub, Nat.reduceMul, Nat.reduceEqDiff, Nat.reduceLeDiff, Nat.reduceLT, Nat.reduceBEq, Nat.reduceBNe, ↓reduceIte, reduceIte, spAlo, reachS] at h; obtain ⟨rfl, rfl, rfl, rfl⟩ := h; refine ⟨?_, ?_⟩)
    | ((with_reducible refine Ob.mk ?_); first | exact trivial | (intros; omega) | ((repeat' first | apply And.intro | (intro hg; have hg' := hg; try simp only [zH] at hg')) <;> first | assumption | omega | (simp only [zH]; omega)))
  refine Za1 (τ := Nat) (fun i => i ≤ o.length) (fun i => ⟨10, [(17, .int .i64 i), (16, .int .i64 o.length), (5, .own 5), (2, .rop (.agg (.cons (.roI o) (.cons (.roI p) (.cons (.roII x) .nil))))), (1, .int .i64 pl)],
    [(5, some (.bools (mix (rgood ⟨o, p, x⟩ pl) (fun _ => false) o.length i)))], []⟩) (fun i => o.length - i) 0 [] ?_ (Nat.zero_le _) ?_
  · (refine ⟨rfl, ?_, ?_⟩ <;> simp only [zE0, zE1, zE2, zE3, zE4, zE5, evp, evx, ev1, evLoad, evStore, evBin, isBoolK, forall_const, z38, tb, Nat.reduceAdd, Nat.reduceSub, Nat.reduceMul, Nat.reduceEqDiff, Nat.reduceLeDiff, Nat.reduceLT, Nat.reduceBEq, Nat.reduceBNe, ↓reduceIte, reduceIte, spAlo, reachS, zI])
    · rw [List.length_replicate]
    · exact hz _
  intro i hi
  have hm1 : (mix (rgood ⟨o, p, x⟩ pl) (fun _ => false) o.length i).length = o.length := Zdo
  have hRl1 := hRl i (p.getD i 0)
  have hpr1 := hpr i
  repeat' first
    | with_reducible first | refine Zas ?_ | refine Zao ?_ | refine Zac ?_ | refine Zad ?_ | refine Zai ?_ | refine Zaq ?_ | refine Zah ?_ | refine Zak ?_ | refine Zar ?_ | refine Zat ?_ | refine Zap ?_ | refine Zam ?_ | refine Zaa ?_ | refine Zae ?_ | refine Zab ?_ | refine Zal ?_
    | ((with_reducible refine Zaj ?_ ?_); exact rfl)
    | ((with_reducible refine Zau ?_); refine Zan rfl ?_ ?_ <;> intro hb <;> (try simp only [zH] at hb))
    | ((with_reducible refine Zav 5 ?_ ?_); (· exact rfl); (with_reducible refine Zav 7 ?_ ?_); (· exact rfl); (first | refine Zaf htb hmz Zbn (fun _ => false) rfl rfl ?_ | refine Zag hmo htb hmz Zbn (fun _ => false) rfl rfl (by kernel_rfl) ?_); intro m' e' l' ob h; simp only [zE0, zE1, zE2, zE3, zE4, zE5, evp, evx, ev1, evLoad, evStore, evBin, isBoolK, forall_const, z38, tb, Nat.reduceAdd, Nat.reduceSub, Nat.reduceMul, Nat.reduceEqDiff, Nat.reduceLeDiff, Nat.reduceLT, Nat.reduceBEq, Nat.reduceBNe, ↓reduceIte, reduceIte, spAlo, reachS] at h; obtain ⟨rfl, rfl, rfl, rfl⟩ := h; refine ⟨?_, ?_⟩)
    | ((with_reducible refine Ob.mk ?_); first | exact trivial | (intros; omega) | ((repeat' first | apply And.intro | (intro hg; have hg' := hg; try simp only [zH] at hg')) <;> first | assumption | omega | (simp only [zH]; omega)))
  · repeat' first
      | with_reducible first | refine Zas ?_ | refine Zao ?_ | refine Zac ?_ | refine Zad ?_ | refine Zai ?_ | refine Zaq ?_ | refine Zah ?_ | refine Zak ?_ | refine Zar ?_ | refine Zat ?_ | refine Zap ?_ | refine Zam ?_ | refine Zaa ?_ | refine Zae ?_ | refine Zab ?_ | refine Zal ?_
      | ((with_reducible refine Zaj ?_ ?_); exact rfl)
      | ((with_reducible refine Zau ?_); refine Zan rfl ?_ ?_ <;> intro hb <;> (try simp only [zH] at hb))
      | ((with_reducible refine Za0 ?_); (first | refine Zaf htb hmz Zbn (fun _ => false) rfl rfl ?_ | refine Zag hmo htb hmz Zbn (fun _ => false) rfl rfl (by kernel_rfl) ?_); intro m' e' l' ob h; simp only [zE0, zE1, zE2, zE3, zE4, zE5, evp, evx, ev1, evLoad, evStore, evBin, isBoolK, forall_const, z38, tb, Nat.reduceAdd, Nat.reduceSub, Nat.reduceMul, Nat.reduceEqDiff, Nat.reduceLeDiff, Nat.reduceLT, Nat.reduceBEq, Nat.reduceBNe, ↓reduceIte, reduceIte, spAlo, reachS] at h; obtain ⟨rfl, rfl, rfl, rfl⟩ := h; refine ⟨?_, ?_⟩)
      | ((with_reducible refine Ob.mk ?_); first | exact trivial | (intros; omega) | ((repeat' first | apply And.intro | (intro hg; have hg' := hg; try simp only [zH] at hg')) <;> first | assumption | omega | (simp only [zH]; omega)))
    refine back (i + 1) [] ?_ (by omega) (by omega)
    (refine ⟨rfl, ?_, ?_⟩ <;> simp only [zE0, zE1, zE2, zE3, zE4, zE5, evp, evx, ev1, evLoad, evStore, evBin, isBoolK, forall_const, z38, tb, Nat.reduceAdd, Nat.reduceSub, Nat.reduceMul, Nat.reduceEqDiff, Nat.reduceLeDiff, Nat.reduceLT, Nat.reduceBEq, Nat.reduceBNe, ↓reduceIte, reduceIte, spAlo, reachS, zI])
    exact Zdn
  have hie : i = o.length := by omega
  subst hie
  rw [Zdp]
  have hgg : ∀ w, w < o.length → ((List.range o.length).map (rgood ⟨o, p, x⟩ pl)).getD w false = rgood ⟨o, p, x⟩ pl w := fun w hw => by simp [List.getD_eq_getElem?_getD, hw]
  have hgl : ((List.range o.length).map (rgood ⟨o, p, x⟩ pl)).length = o.length := by simp
  generalize (List.range o.length).map (rgood ⟨o, p, x⟩ pl) = good at *
  clear hpr1
  repeat' first
    | with_reducible first | refine Zas ?_ | refine Zao ?_ | refine Zac ?_ | refine Zad ?_ | refine Zai ?_ | refine Zaq ?_ | refine Zah ?_ | refine Zak ?_ | refine Zar ?_ | refine Zat ?_ | refine Zap ?_ | refine Zam ?_ | refine Zaa ?_ | refine Zae ?_ | refine Zab ?_ | refine Zal ?_
    | ((with_reducible refine Zaj ?_ ?_); exact rfl)
    | ((with_reducible refine Zau ?_); refine Zan rfl ?_ ?_ <;> intro hb <;> (try simp only [zH] at hb))
    | ((with_reducible refine Za0 ?_); (first | refine Zaf htb hmz Zbn (fun _ => false) rfl rfl ?_ | refine Zag hmo htb hmz Zbn (fun _ => false) rfl rfl (by kernel_rfl) ?_); intro m' e' l' ob h; simp only [zE0, zE1, zE2, zE3, zE4, zE5, evp, evx, ev1, evLoad, evStore, evBin, isBoolK, forall_const, z38, tb, Nat.reduceAdd, Nat.reduceSub, Nat.reduceMul, Nat.reduceEqDiff, Nat.reduceLeDiff, Nat.reduceLT, Nat.reduceBEq, Nat.reduceBNe, ↓reduceIte, reduceIte, spAlo, reachS] at h; obtain ⟨rfl, rfl, rfl, rfl⟩ := h; refine ⟨?_, ?_⟩)
    | ((with_reducible refine Ob.mk ?_); first | exact trivial | (intros; omega) | ((repeat' first | apply And.intro | (intro hg; have hg' := hg; try simp only [zH] at hg')) <;> first | assumption | omega | (simp only [zH]; omega)))
  refine Za1 (τ := Nat) (fun i => i ≤ o.length) (fun i => ⟨19, [(51, .int .i64 i), (50, .int .i64 o.length), (7, .own 14), (5, .own 5), (2, .rop (.agg (.cons (.roI o) (.cons (.roI p) (.cons (.roII x) .nil))))), (1, .int .i64 pl)],
    [(5, some (.bools good)), (14, some (.bools (mix (fun v => rsome ⟨o, p, x⟩ pl v o.length) (fun _ => false) o.length i)))], []⟩) (fun i => o.length - i) 0 [] ?_ (Nat.zero_le _) ?_
  · (refine ⟨rfl, ?_, ?_⟩ <;> simp only [zE0, zE1, zE2, zE3, zE4, zE5, evp, evx, ev1, evLoad, evStore, evBin, isBoolK, forall_const, z38, tb, Nat.reduceAdd, Nat.reduceSub, Nat.reduceMul, Nat.reduceEqDiff, Nat.reduceLeDiff, Nat.reduceLT, Nat.reduceBEq, Nat.reduceBNe, ↓reduceIte, reduceIte, spAlo, reachS, zI])
    · rw [List.length_replicate]
    · exact hz _
  intro i hi
  have hm1 : (mix (fun v => rsome ⟨o, p, x⟩ pl v o.length) (fun _ => false) o.length i).length = o.length := Zdo
  have hRl1 := hRl i 60
  have hgg1 := hgg i
  repeat' first
    | with_reducible first | refine Zas ?_ | refine Zao ?_ | refine Zac ?_ | refine Zad ?_ | refine Zai ?_ | refine Zaq ?_ | refine Zah ?_ | refine Zak ?_ | refine Zar ?_ | refine Zat ?_ | refine Zap ?_ | refine Zam ?_ | refine Zaa ?_ | refine Zae ?_ | refine Zab ?_ | refine Zal ?_
    | ((with_reducible refine Zaj ?_ ?_); exact rfl)
    | ((with_reducible refine Zau ?_); refine Zan rfl ?_ ?_ <;> intro hb <;> (try simp only [zH] at hb))
    | ((with_reducible refine Zav 13 ?_ ?_); (· exact rfl); (with_reducible refine Zav 18 ?_ ?_); (· exact rfl); (first | refine Zaf htb hmz Zbn (fun _ => false) rfl rfl ?_ | refine Zag hmo htb hmz Zbn (fun _ => false) rfl rfl (by kernel_rfl) ?_); intro m' e' l' ob h; simp only [zE0, zE1, zE2, zE3, zE4, zE5, evp, evx, ev1, evLoad, evStore, evBin, isBoolK, forall_const, z38, tb, Nat.reduceAdd, Nat.reduceSub, Nat.reduceMul, Nat.reduceEqDiff, Nat.reduceLeDiff, Nat.reduceLT, Nat.reduceBEq, Nat.reduceBNe, ↓reduceIte, reduceIte, spAlo, reachS] at h; obtain ⟨rfl, rfl, rfl, rfl⟩ := h; refine ⟨?_, ?_⟩)
    | ((with_reducible refine Ob.mk ?_); first | exact trivial | (intros; omega) | ((repeat' first | apply And.intro | (intro hg; have hg' := hg; try simp only [zH] at hg')) <;> first | assumption | omega | (simp only [zH]; omega)))
  · have hin : i < o.length := by omega
    rw [hgg1 hin]
    have hms : (mix (fun v => rsome ⟨o, p, x⟩ pl v o.length) (fun _ => false) o.length i).set i (rsome ⟨o, p, x⟩ pl i o.length) = mix (fun v => rsome ⟨o, p, x⟩ pl v o.length) (fun _ => false) o.length (i + 1) := Zdn
    generalize hM : mix (fun v => rsome ⟨o, p, x⟩ pl v o.length) (fun _ => false) o.length i = M at *
    have hj1 : ∀ j, rsome ⟨o, p, x⟩ pl i (j + 1) = (rsome ⟨o, p, x⟩ pl i j || (reachL ⟨o, p, x⟩ i 60).getD j false && rgood ⟨o, p, x⟩ pl j) := fun j => rfl
    have hj0 : rgood ⟨o, p, x⟩ pl i = rsome ⟨o, p, x⟩ pl i 0 := rfl
    rw [hj0]
    generalize hR : reachL ⟨o, p, x⟩ i 60 = R at *
    generalize hS : rsome ⟨o, p, x⟩ pl i = S at *
    refine Za1 (τ := Nat) (fun j => j ≤ o.length) (fun j => ⟨35, [(65, .int .i64 j), (64, .int .i64 o.length), (63, .roB R), (8, .int .i64 i), (51, .int .i64 i), (50, .int .i64 o.length), (7, .own 14), (5, .own 5), (2, .rop (.agg (.cons (.roI o) (.cons (.roI p) (.cons (.roII x) .nil))))), (1, .int .i64 pl)],
      [(5, some (.bools good)), (14, some (.bools (M.set i (S j))))], []⟩) (fun j => o.length - j) 0 [] ?_ (Nat.zero_le _) ?_
    · (refine ⟨rfl, ?_, ?_⟩ <;> simp only [zE0, zE1, zE2, zE3, zE4, zE5, evp, evx, ev1, evLoad, evStore, evBin, isBoolK, forall_const, z38, tb, Nat.reduceAdd, Nat.reduceSub, Nat.reduceMul, Nat.reduceEqDiff, Nat.reduceLeDiff, Nat.reduceLT, Nat.reduceBEq, Nat.reduceBNe, ↓reduceIte, reduceIte, spAlo, reachS, zI])
      rw [hRl1]
    intro j hj
    have hgg2 := hgg j
    have hml : (M.set i (S j)).length = o.length := by rw [List.length_set, hm1]
    have hMg : (M.set i (S j)).getD i false = S j := by rw [Zch (by omega), if_pos rfl]
    have hj1 := hj1 j
    generalize hM2 : M.set i (S j) = M2 at *
    repeat' first
      | with_reducible first | refine Zas ?_ | refine Zao ?_ | refine Zac ?_ | refine Zad ?_ | refine Zai ?_ | refine Zaq ?_ | refine Zah ?_ | refine Zak ?_ | refine Zar ?_ | refine Zat ?_ | refine Zap ?_ | refine Zam ?_ | refine Zaa ?_ | refine Zae ?_ | refine Zab ?_ | refine Zal ?_
      | ((with_reducible refine Zaj ?_ ?_); exact rfl)
      | ((with_reducible refine Zau ?_); refine Zan rfl ?_ ?_ <;> intro hb <;> (try simp only [zH] at hb))
      | ((with_reducible refine Zav 15 ?_ ?_); (· exact rfl); (with_reducible refine Zav 17 ?_ ?_); (· exact rfl); (first | refine Zaf htb hmz Zbn (fun _ => false) rfl rfl ?_ | refine Zag hmo htb hmz Zbn (fun _ => false) rfl rfl (by kernel_rfl) ?_); intro m' e' l' ob h; simp only [zE0, zE1, zE2, zE3, zE4, zE5, evp, evx, ev1, evLoad, evStore, evBin, isBoolK, forall_const, z38, tb, Nat.reduceAdd, Nat.reduceSub, Nat.reduceMul, Nat.reduceEqDiff, Nat.reduceLeDiff, Nat.reduceLT, Nat.reduceBEq, Nat.reduceBNe, ↓reduceIte, reduceIte, spAlo, reachS] at h; obtain ⟨rfl, rfl, rfl, rfl⟩ := h; refine ⟨?_, ?_⟩)
      | ((with_reducible refine Ob.mk ?_); first | exact trivial | (intros; omega) | ((repeat' first | apply And.intro | (intro hg; have hg' := hg; try simp only [zH] at hg')) <;> first | assumption | omega | (simp only [zH]; omega)))
    · have hjn : j < o.length := by omega
      rw [← hgg2 hjn] at hj1
      rw [← hMg] at hj1
      repeat' first
        | with_reducible first | refine Zas ?_ | refine Zao ?_ | refine Zac ?_ | refine Zad ?_ | refine Zai ?_ | refine Zaq ?_ | refine Zah ?_ | refine Zak ?_ | refine Zar ?_ | refine Zat ?_ | refine Zap ?_ | refine Zam ?_ | refine Zaa ?_ | refine Zae ?_ | refine Zab ?_ | refine Zal ?_
        | ((with_reducible refine Zaj ?_ ?_); exact rfl)
        | ((with_reducible refine Zau ?_); refine Zan rfl ?_ ?_ <;> intro hb <;> (try simp only [zH] at hb))
        | ((with_reducible refine Za0 ?_); (first | refine Zaf htb hmz Zbn (fun _ => false) rfl rfl ?_ | refine Zag hmo htb hmz Zbn (fun _ => false) rfl rfl (by kernel_rfl) ?_); intro m' e' l' ob h; simp only [zE0, zE1, zE2, zE3, zE4, zE5, evp, evx, ev1, evLoad, evStore, evBin, isBoolK, forall_const, z38, tb, Nat.reduceAdd, Nat.reduceSub, Nat.reduceMul, Nat.reduceEqDiff, Nat.reduceLeDiff, Nat.reduceLT, Nat.reduceBEq, Nat.reduceBNe, ↓reduceIte, reduceIte, spAlo, reachS] at h; obtain ⟨rfl, rfl, rfl, rfl⟩ := h; refine ⟨?_, ?_⟩)
        | ((with_reducible refine Ob.mk ?_); first | exact trivial | (intros; omega) | ((repeat' first | apply And.intro | (intro hg; have hg' := hg; try simp only [zH] at hg')) <;> first | assumption | omega | (simp only [zH]; omega)))
      · exact Ob.mk ⟨⟨⟨⟨⟨⟨⟨by omega, by omega⟩, by omega⟩, fun h => ⟨h, by omega, by omega⟩⟩, fun h => ⟨h, by omega⟩⟩, fun h => ⟨h, fun h2 => by rw [h, h2]; rfl⟩⟩, by omega, by omega⟩, by omega⟩
      refine back (j + 1) [] ?_ (by omega) (by omega)
      (refine ⟨rfl, ?_, ?_⟩ <;> simp only [zE0, zE1, zE2, zE3, zE4, zE5, evp, evx, ev1, evLoad, evStore, evBin, isBoolK, forall_const, z38, tb, Nat.reduceAdd, Nat.reduceSub, Nat.reduceMul, Nat.reduceEqDiff, Nat.reduceLeDiff, Nat.reduceLT, Nat.reduceBEq, Nat.reduceBNe, ↓reduceIte, reduceIte, spAlo, reachS, zI])
      rw [← hj1, ← hM2, List.set_set]
    have hje : j = o.length := by omega
    subst hje
    repeat' first
      | with_reducible first | refine Zas ?_ | refine Zao ?_ | refine Zac ?_ | refine Zad ?_ | refine Zai ?_ | refine Zaq ?_ | refine Zah ?_ | refine Zak ?_ | refine Zar ?_ | refine Zat ?_ | refine Zap ?_ | refine Zam ?_ | refine Zaa ?_ | refine Zae ?_ | refine Zab ?_ | refine Zal ?_
      | ((with_reducible refine Zaj ?_ ?_); exact rfl)
      | ((with_reducible refine Zau ?_); refine Zan rfl ?_ ?_ <;> intro hb <;> (try simp only [zH] at hb))
      | ((with_reducible refine Za0 ?_); (first | refine Zaf htb hmz Zbn (fun _ => false) rfl rfl ?_ | refine Zag hmo htb hmz Zbn (fun _ => false) rfl rfl (by kernel_rfl) ?_); intro m' e' l' ob h; simp only [zE0, zE1, zE2, zE3, zE4, zE5, evp, evx, ev1, evLoad, evStore, evBin, isBoolK, forall_const, z38, tb, Nat.reduceAdd, Nat.reduceSub, Nat.reduceMul, Nat.reduceEqDiff, Nat.reduceLeDiff, Nat.reduceLT, Nat.reduceBEq, Nat.reduceBNe, ↓reduceIte, reduceIte, spAlo, reachS] at h; obtain ⟨rfl, rfl, rfl, rfl⟩ := h; refine ⟨?_, ?_⟩)
      | ((with_reducible refine Ob.mk ?_); first | exact trivial | (intros; omega) | ((repeat' first | apply And.intro | (intro hg; have hg' := hg; try simp only [zH] at hg')) <;> first | assumption | omega | (simp only [zH]; omega)))
    refine back (i + 1) [] ?_ (by omega) (by omega)
    (refine ⟨rfl, ?_, ?_⟩ <;> simp only [zE0, zE1, zE2, zE3, zE4, zE5, evp, evx, ev1, evLoad, evStore, evBin, isBoolK, forall_const, z38, tb, Nat.reduceAdd, Nat.reduceSub, Nat.reduceMul, Nat.reduceEqDiff, Nat.reduceLeDiff, Nat.reduceLT, Nat.reduceBEq, Nat.reduceBNe, ↓reduceIte, reduceIte, spAlo, reachS, zI])
    rw [← hM2]; exact hms
  have hie : i = o.length := by omega
  subst hie
  rw [Zdp]
  have hL : ((List.range o.length).map fun v => rsome ⟨o, p, x⟩ pl v o.length) = aloneL ⟨o, p, x⟩ pl := by
    refine aloneL_eq (by simp) fun v hv => ?_
    rw [← rsome_all (g := ⟨o, p, x⟩) (fun v hv => (hpr v hv).2) hrow hv]
    have : ((List.range o.length).map fun v => rsome ⟨o, p, x⟩ pl v o.length).getD v false = rsome ⟨o, p, x⟩ pl v o.length := by
      have : v < o.length := hv
      simp [List.getD_eq_getElem?_getD, this]
    rw [this]
  rw [hL]
  repeat' first
    | with_reducible first | refine Zas ?_ | refine Zao ?_ | refine Zac ?_ | refine Zad ?_ | refine Zai ?_ | refine Zaq ?_ | refine Zah ?_ | refine Zak ?_ | refine Zar ?_ | refine Zat ?_ | refine Zap ?_ | refine Zam ?_ | refine Zaa ?_ | refine Zae ?_ | refine Zab ?_ | refine Zal ?_
    | ((with_reducible refine Zaj ?_ ?_); exact rfl)
    | ((with_reducible refine Zau ?_); refine Zan rfl ?_ ?_ <;> intro hb <;> (try simp only [zH] at hb))
    | ((with_reducible refine Za0 ?_); (first | refine Zaf htb hmz Zbn (fun _ => false) rfl rfl ?_ | refine Zag hmo htb hmz Zbn (fun _ => false) rfl rfl (by kernel_rfl) ?_); intro m' e' l' ob h; simp only [zE0, zE1, zE2, zE3, zE4, zE5, evp, evx, ev1, evLoad, evStore, evBin, isBoolK, forall_const, z38, tb, Nat.reduceAdd, Nat.reduceSub, Nat.reduceMul, Nat.reduceEqDiff, Nat.reduceLeDiff, Nat.reduceLT, Nat.reduceBEq, Nat.reduceBNe, ↓reduceIte, reduceIte, spAlo, reachS] at h; obtain ⟨rfl, rfl, rfl, rfl⟩ := h; refine ⟨?_, ?_⟩)
    | ((with_reducible refine Ob.mk ?_); first | exact trivial | (intros; omega) | ((repeat' first | apply And.intro | (intro hg; have hg' := hg; try simp only [zH] at hg')) <;> first | assumption | omega | (simp only [zH]; omega)))
  refine Zay rfl rfl (spec_own 14 rfl rfl rfl rfl rfl (Nat.lt_of_lt_of_le (by decide : 14 < 22) (Nat.le_refl 22)))
end Go.Proofs.Ytbcghiagomkadaa.Cal
