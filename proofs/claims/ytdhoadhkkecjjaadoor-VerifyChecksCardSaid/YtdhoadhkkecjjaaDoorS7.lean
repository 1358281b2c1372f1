/- Own texts, merged. -/
import Derived.Test.YtdhoadhkkecjjaaDoorS6
set_option linter.unusedVariables false
set_option linter.unusedSimpArgs false
open Nat (reduceAdd reduceSub reduceMul reduceEqDiff reduceLeDiff reduceLT)
namespace Go.Proofs.YtdhoadhkkecjjaaDoor.Cal
open Go Pl
theorem Zix : ∀ {l : List Bool} {t : Nat}, t < l.length → l.getD t false = false → (l.set t true).count false + 1 = l.count false
  | [], t, h, _ => absurd h (Nat.not_lt_zero t)
  | a :: l, 0, _, h2 => by
    have : a = false := h2
    subst this
    simp
  | a :: l, t + 1, h, h2 => by
    have := Zix (l := l) (t := t) (by simpa using h) h2
    rw [List.set_cons_succ, List.count_cons, List.count_cons]; omega
structure FI (n : Nat) (x : List (List Int)) (ok : Nat → Prop) (s : Nat) (out : List Bool) (l : List Nat) (ex : Nat → Prop) : Prop where
  len : out.length = n
  lb : ∀ u, u ∈ l → u < n
  rc : ∀ u, u < n → out.getD u false = true → ∃ t, Ed (rws x) ok s t ∧ Rch (Ed (rws x) ok) t u
  ls : ∀ u, u ∈ l → u = s ∨ out.getD u false = true
  cl : ∀ u, u < n → (u = s ∨ out.getD u false = true) → u ∈ l ∨ ex u ∨ ∀ t, Ed (rws x) ok u t → out.getD t false = true
  ll : l.length + out.count false ≤ n + 1
structure FwS where
  out : List Bool
  l : List Nat
structure FwJ where
  out : List Bool
  l : List Nat
  r : Nat
section
variable {n : Nat} {x : List (List Int)} {ok : Nat → Prop} {s v : Nat} {out : List Bool} {l : List Nat}
theorem FI_begin (hs : s < n) : FI n x ok s (List.replicate n false) [s] fun _ => False := by
  have h0 : ∀ u, (List.replicate n false).getD u false = false := fun u => by
    rw [List.getD_eq_getElem?_getD, List.getElem?_replicate]; split <;> rfl
  refine { len := List.length_replicate, lb := fun u h => by rw [List.mem_singleton.1 h]; exact hs, rc := fun u _ h => ?_, ls := fun u h => .inl (List.mem_singleton.1 h), cl := fun u _ h => ?_, ll := by simp; omega }
  · rw [h0 u] at h; cases h
  · rcases h with h | h
    · exact .inl (List.mem_singleton.2 h)
    · rw [h0 u] at h; cases h
theorem FI_pop (H : FI n x ok s out (l ++ [v]) fun _ => False) : FI n x ok s out l (fun u => u = v) ∧ v < n ∧ (v = s ∨ out.getD v false = true) := by
  have hv : v ∈ l ++ [v] := List.mem_append_right _ List.mem_cons_self
  refine ⟨{ len := H.len, lb := fun u h => H.lb u (List.mem_append_left _ h), rc := H.rc, ls := fun u h => H.ls u (List.mem_append_left _ h), cl := fun u hu h => ?_, ll := ?_ }, H.lb v hv, H.ls v hv⟩
  · rcases H.cl u hu h with h | h | h
    · rcases List.mem_append.1 h with h | h
      · exact .inl h
      · exact .inr (.inl (List.mem_singleton.1 h))
    · exact h.elim
    · exact .inr (.inr h)
  · have := H.ll
    rw [List.length_append] at this
    omega
theorem FI_add (H : FI n x ok s out l fun u => u = v) (hv : v < n) (hs : v = s ∨ out.getD v false = true) {t : Nat} (ht : t < n) (he : Ed (rws x) ok v t) (ho : out.getD t false = false) :
    FI n x ok s (out.set t true) (l ++ [t]) fun u => u = v := by
  have htl : t < out.length := by rw [H.len]; exact ht
  have hgd : ∀ u, (out.set t true).getD u false = if u = t then true else out.getD u false := fun u => Zdx htl
  refine { len := by rw [List.length_set]; exact H.len, lb := fun u h => ?_, rc := fun u hu h => ?_, ls := fun u h => ?_, cl := fun u hu h => ?_, ll := ?_ }
  · rcases List.mem_append.1 h with h | h
    · exact H.lb u h
    · rw [List.mem_singleton.1 h]; exact ht
  · rw [hgd] at h
    by_cases e : u = t
    · subst e
      rcases hs with rfl | h2
      · exact ⟨u, he, .refl _⟩
      · obtain ⟨t', h3, h4⟩ := H.rc v hv h2
        exact ⟨t', h3, .step h4 he⟩
    · rw [if_neg e] at h; exact H.rc u hu h
  · rw [hgd]
    rcases List.mem_append.1 h with h | h
    · rcases H.ls u h with h | h
      · exact .inl h
      · right; split
        · rfl
        · exact h
    · right; rw [if_pos (List.mem_singleton.1 h)]
  · rw [hgd] at h
    by_cases e : u = t
    · exact .inl (List.mem_append_right _ (List.mem_singleton.2 e))
    · rw [if_neg e] at h
      rcases H.cl u hu h with h | h | h
      · exact .inl (List.mem_append_left _ h)
      · exact .inr (.inl h)
      · refine .inr (.inr fun w hw => ?_)
        rw [hgd]; split
        · rfl
        · exact h w hw
  · have h1 := Zix htl ho
    have h2 := H.ll
    rw [List.length_append, List.length_singleton]; omega
theorem FI_end (H : FI n x ok s out l fun u => u = v) (h : ∀ t, Ed (rws x) ok v t → out.getD t false = true) : FI n x ok s out l fun _ => False :=
  { H with cl := fun u hu hs => (H.cl u hu hs).elim .inl fun h1 => h1.elim (fun h1 => by subst h1; exact .inr (.inr h)) fun h1 => .inr (.inr h1) }
theorem FI_done (H : FI n x ok s out [] fun _ => False) (hs : s < n) (hrow : ∀ v, v < n → ∀ t, t ∈ rws x v → t < n) {u : Nat} (hu : u < n) :
    out.getD u false = true ↔ ∃ t, Ed (rws x) ok s t ∧ Rch (Ed (rws x) ok) t u := by
  constructor
  · exact H.rc u hu
  · rintro ⟨t, h1, h2⟩
    have hcl : ∀ u, u < n → (u = s ∨ out.getD u false = true) → ∀ t, Ed (rws x) ok u t → out.getD t false = true := fun u hu h => by
      rcases H.cl u hu h with h | h | h
      · exact absurd h List.not_mem_nil
      · exact h.elim
      · exact h
    have ht := hcl s hs (.inl rfl) t h1
    have htn := hrow s hs t h1.1
    exact (h2.closed (C := fun v => v < n ∧ out.getD v false = true) (fun a b ha hb => ⟨hrow a ha.1 b hb.1, hcl a ha.1 (.inr ha.2) b hb⟩) ⟨htn, ht⟩).2
end
open Classical in
noncomputable def Zdz (g : Gm) (s : Nat) (top : Int) : List Bool := (List.range g.own.length).map fun v => decide (Rch1 g top s v)
theorem reachL_len {g : Gm} {s : Nat} {top : Int} : (Zdz g s top).length = g.own.length := by simp [Zdz]
theorem Zdv {g : Gm} {s : Nat} {top : Int} {v : Nat} (hv : v < g.own.length) : (Zdz g s top).getD v false = true ↔ Rch1 g top s v := by
  simp [Zdz, List.getD_eq_getElem?_getD, hv]
theorem reachL_eq {g : Gm} {s : Nat} {top : Int} {l : List Bool} (hl : l.length = g.own.length) (h : ∀ v, v < g.own.length → (l.getD v false = true ↔ Rch1 g top s v)) : l = Zdz g s top := by
  refine List.ext_getElem (by rw [hl, reachL_len]) fun j h1 h2 => ?_
  have h3 := h j (by omega)
  have h4 := Zdv (g := g) (s := s) (top := top) (v := j) (by omega)
  rw [List.getD_eq_getElem?_getD, List.getElem?_eq_getElem h1] at h3
  rw [List.getD_eq_getElem?_getD, List.getElem?_eq_getElem h2] at h4
  simp only [Option.getD_some] at h3 h4
  exact Bool.eq_iff_iff.2 (h3.trans h4.symm)
/-! The reference's own two loops -/
noncomputable def Zey (g : Gm) (pl : Int) (v : Nat) : Bool := decide (g.pri.getD v 0 % 2 = pl) && (Zdz g v (g.pri.getD v 0)).getD v false
theorem Zex {g : Gm} {pl : Int} {v : Nat} (hv : v < g.own.length) : Zey g pl v = true ↔ Zjg g pl v := by
  unfold Zey Zjg
  rw [Bool.and_eq_true, decide_eq_true_iff, Zdv hv]
noncomputable def Zd3 (g : Gm) (pl : Int) (v : Nat) : Nat → Bool
  | 0 => Zey g pl v
  | j + 1 => Zd3 g pl v j || (Zdz g v 60).getD j false && Zey g pl j
theorem rsome_iff {g : Gm} {pl : Int} {v : Nat} : ∀ {j : Nat}, Zd3 g pl v j = true ↔ Zey g pl v = true ∨ ∃ w, w < j ∧ (Zdz g v 60).getD w false = true ∧ Zey g pl w = true
  | 0 => ⟨.inl, fun h => h.elim id fun ⟨w, h, _⟩ => absurd h (Nat.not_lt_zero w)⟩
  | j + 1 => by
    rw [Zd3, Bool.or_eq_true, rsome_iff, Bool.and_eq_true]
    constructor
    · rintro ((h | ⟨w, h1, h2⟩) | h)
      · exact .inl h
      · exact .inr ⟨w, by omega, h2⟩
      · exact .inr ⟨j, by omega, h⟩
    · rintro (h | ⟨w, h1, h2⟩)
      · exact .inl (.inl h)
      · by_cases e : w = j
        · subst e; exact .inr h2
        · exact .inl (.inr ⟨w, by omega, h2⟩)
theorem rsome_all {g : Gm} {pl : Int} (hpr : ∀ v, v < g.own.length → g.pri.getD v 0 ≤ 60) (hrow : ∀ v, v < g.own.length → ∀ t, t ∈ rws g.nxt v → t < g.own.length) {v : Nat} (hv : v < g.own.length) : Zd3 g pl v g.own.length = true ↔ Zij g pl v := by
  rw [rsome_iff]
  unfold Zij
  constructor
  · rintro (h | ⟨w, h1, h2, h3⟩)
    · exact ⟨v, hv, (Zex hv).1 h, .refl _⟩
    · obtain ⟨t, h4, h5⟩ := (Zdv h1).1 h2
      exact ⟨w, h1, (Zex h1).1 h3, RchA.cons h4.1 (Rch.mono (fun a b h => h.1) h5)⟩
  · rintro ⟨w, h1, h2, h3⟩
    rcases Rch.head h3 with e | ⟨t, h4, h5⟩
    · subst e; exact .inl ((Zex h1).2 h2)
    · refine .inr ⟨w, h1, (Zdv h1).2 ⟨t, ⟨h4, hpr t (hrow v hv t h4)⟩, ?_⟩, (Zex h1).2 h2⟩
      have ht := hrow v hv t h4
      have : ∀ {a b : Nat}, Rch (fun a b => b ∈ rws g.nxt a) a b → a < g.own.length → Rch (Ed (rws g.nxt) (okP g.pri 60)) a b ∧ b < g.own.length := fun {a b} h ha => by
        induction h with
        | refl => exact ⟨.refl _, ha⟩
        | step _ e ih =>
          have hb := hrow _ ih.2 _ e
          exact ⟨.step ih.1 ⟨e, hpr _ hb⟩, hb⟩
      exact (this h5 ht).1
noncomputable def Zcu : Spec
  | [.agg (.cons (.roI o) (.cons (.roI p) (.cons (.roII x) .nil))), .int .i64 f, .int .i64 top] => some ⟨Zbh ⟨o, p, x⟩ = true ∧ 0 ≤ f ∧ f < (o.length : Int), .roB (Zdz ⟨o, p, x⟩ f.toNat top), none⟩
  | _ => none
def spNo : Nat → Option Spec := fun _ => none
theorem Zcd : SpOK Tryd.prog spNo := fun f S h => by cases h
set_option maxRecDepth 4000 in
set_option maxHeartbeats 4000000 in
theorem reaches_ok : Zcm Tryd.prog 54 Zcu := by
  refine Zbe htb (fn := Tryd.f54) (by kernel_rfl) (by kernel_rfl) rfl (fun args r hS => ?_) (fun args r hS hob hl => ?_)
  · unfold Zcu at hS; split at hS <;> first | (cases hS; done) | (cases hS; exact Nat.le_of_ble_eq_true rfl)
  unfold Zcu at hS
  split at hS
  case h_2 => cases hS
  rename_i o p x f top
  simp only [Option.some.injEq] at hS
  subst hS
  simp only [lenP, mkL, lim] at hl
  dsimp only at hob
  obtain ⟨hv, hf0, hf1⟩ := hob
  obtain ⟨f, rfl⟩ := Int.eq_ofNat_of_zero_le hf0
  have hV := validB_iff.1 hv
  obtain ⟨hn, hpl, hxl, hpos⟩ := id hV
  simp only [Gm.n] at hn hpl hxl
  have hrl : ∀ v, v < o.length → (x.getD v []).length ≤ 64 := fun v h => by
    obtain ⟨⟨a1, a2, a3, a4, _, a6⟩, _⟩ := hpos v (by simp only [Gm.n]; omega)
    exact a6
  have hrb : ∀ v, v < o.length → ∀ j, j < (x.getD v []).length → 0 ≤ (x.getD v []).getD j 0 ∧ (x.getD v []).getD j 0 < o.length := fun v h j hj => by
    obtain ⟨_, hr⟩ := hpos v (by simp only [Gm.n]; omega)
    exact ⟨(hr j hj).1, (hr j hj).2.1⟩
  repeat' first
    | with_reducible first | apply Zar | apply Zan | apply Zaa | apply Zad | apply Zah | apply Zao | apply Zag | apply Zaj | apply Zaq | apply Zas | apply Zap | apply Zal | apply Zac | apply Zak
    | ((with_reducible refine Zai ?_ ?_); exact rfl) | ((with_reducible refine Zat ?_); refine Zam rfl ?_ ?_ <;> intro hb <;> (try simp only [zH] at hb)) | ((with_reducible refine Zau 2 ?_ ?_); (· exact rfl); (first | refine Zaf htb hmz Zcd fF rfl rfl ?_ | refine Zae hmo htb hmz Zcd fF rfl rfl (by kernel_rfl) ?_); intro _ _ _ _ h; simp only [zE, evp, evx, ev1, evLoad, evStore, evBin, evIf, Zab, forall_const, z38, tb, reduceAdd, reduceSub, reduceMul, reduceEqDiff, reduceLeDiff, reduceLT, Nat.reduceBEq, Nat.reduceBNe, ↓reduceIte, reduceIte, spNo] at h; obtain ⟨rfl, rfl, rfl, rfl⟩ := h; refine ⟨?_, ?_⟩) | ((with_reducible refine Ob.mk ?_); first | exact trivial | (intros; omega) | ((repeat' first | apply And.intro | (intro a; have b := a; try simp only [zH] at b)) <;> first | assumption | omega | (simp only [zH]; omega)))
  (refine Zaf htb hmz Zcd (fun i => Nat.beq i 1) rfl rfl ?_; intro _ _ _ _ h; simp only [zE, evp, evx, ev1, evLoad, evStore, evBin, evIf, Zab, forall_const, z38, tb, reduceAdd, reduceSub, reduceMul, reduceEqDiff, reduceLeDiff, reduceLT, Nat.reduceBEq, Nat.reduceBNe, ↓reduceIte, reduceIte, spNo] at h; obtain ⟨rfl, rfl, rfl, rfl⟩ := h; refine ⟨?_, ?_⟩)
  · first | ((with_reducible refine Ob.mk ?_); first | exact trivial | (intros; omega) | ((repeat' first | apply And.intro | (intro a; have b := a; try simp only [zH] at b)) <;> first | assumption | omega | (simp only [zH]; omega))) | skip
  repeat' first
    | with_reducible first | apply Zar | apply Zan | apply Zaa | apply Zad | apply Zah | apply Zao | apply Zag | apply Zaj | apply Zaq | apply Zas | apply Zap | apply Zal | apply Zac | apply Zak
    | ((with_reducible refine Zai ?_ ?_); exact rfl) | ((with_reducible refine Zat ?_); refine Zam rfl ?_ ?_ <;> intro hb <;> (try simp only [zH] at hb)) | ((with_reducible refine Za3 ?_); (first | refine Zaf htb hmz Zcd fF rfl rfl ?_ | refine Zae hmo htb hmz Zcd fF rfl rfl (by kernel_rfl) ?_); intro _ _ _ _ h; simp only [zE, evp, evx, ev1, evLoad, evStore, evBin, evIf, Zab, forall_const, z38, tb, reduceAdd, reduceSub, reduceMul, reduceEqDiff, reduceLeDiff, reduceLT, Nat.reduceBEq, Nat.reduceBNe, ↓reduceIte, reduceIte, spNo] at h; obtain ⟨rfl, rfl, rfl, rfl⟩ := h; refine ⟨?_, ?_⟩) | ((with_reducible refine Ob.mk ?_); first | exact trivial | (intros; omega) | ((repeat' first | apply And.intro | (intro a; have b := a; try simp only [zH] at b)) <;> first | assumption | omega | (simp only [zH]; omega)))
  refine Za6 (τ := FwS) (fun s => FI o.length x (okP p top) f s.out s.l fun _ => False) (fun s => ⟨10, [(8, .own 8), (7, .own 5), (3, .rop (.agg (.cons (.roI o) (.cons (.roI p) (.cons (.roII x) .nil))))), (2, .int .i64 top)],
    [(5, some (.bools s.out)), (8, some (.ints (s.l.map fun v : Nat => (v : Int))))], []⟩) (fun s => 2 * s.out.count false + s.l.length) ⟨List.replicate o.length false, [f]⟩ [] ?_ (FI_begin (by omega)) ?_
  · (refine ⟨rfl, ?_, ?_⟩ <;> simp only [zE, evp, evx, ev1, evLoad, evStore, evBin, evIf, Zab, forall_const, z38, tb, reduceAdd, reduceSub, reduceMul, reduceEqDiff, reduceLeDiff, reduceLT, Nat.reduceBEq, Nat.reduceBNe, ↓reduceIte, reduceIte, spNo, zI])
  rintro ⟨out, l⟩ hd
  have hol := hd.len
  have hll := hd.ll
  dsimp only at hll hol
  dsimp only
  have hlm : (l.map fun v : Nat => (v : Int)).length = l.length := List.length_map ..
  repeat' first
    | with_reducible first | apply Zar | apply Zan | apply Zaa | apply Zad | apply Zah | apply Zao | apply Zag | apply Zaj | apply Zaq | apply Zas | apply Zap | apply Zal | apply Zac | apply Zak
    | ((with_reducible refine Zai ?_ ?_); exact rfl) | ((with_reducible refine Zat ?_); refine Zam rfl ?_ ?_ <;> intro hb <;> (try simp only [zH] at hb)) | ((with_reducible refine Zau 4 ?_ ?_); (· exact rfl); (with_reducible refine Zau 13 ?_ ?_); (· exact rfl); (first | refine Zaf htb hmz Zcd fF rfl rfl ?_ | refine Zae hmo htb hmz Zcd fF rfl rfl (by kernel_rfl) ?_); intro _ _ _ _ h; simp only [zE, evp, evx, ev1, evLoad, evStore, evBin, evIf, Zab, forall_const, z38, tb, reduceAdd, reduceSub, reduceMul, reduceEqDiff, reduceLeDiff, reduceLT, Nat.reduceBEq, Nat.reduceBNe, ↓reduceIte, reduceIte, spNo] at h; obtain ⟨rfl, rfl, rfl, rfl⟩ := h; refine ⟨?_, ?_⟩) | ((with_reducible refine Ob.mk ?_); first | exact trivial | (intros; omega) | ((repeat' first | apply And.intro | (intro a; have b := a; try simp only [zH] at b)) <;> first | assumption | omega | (simp only [zH]; omega)))
  · obtain ⟨q, v, rfl⟩ : ∃ q v, l = q ++ [v] := by
      rcases List.eq_nil_or_concat l with h | ⟨q, v, h⟩
      · subst h; simp at hb
      · exact ⟨q, v, by rw [h, List.concat_eq_append]⟩
    obtain ⟨hP, hvn, hvs⟩ := FI_pop hd
    have hpl2 : (q ++ [v]).length = q.length + 1 := by rw [List.length_append]; rfl
    repeat' first
      | with_reducible first | apply Zar | apply Zan | apply Zaa | apply Zad | apply Zah | apply Zao | apply Zag | apply Zaj | apply Zaq | apply Zas | apply Zap | apply Zal | apply Zac | apply Zak
      | ((with_reducible refine Zai ?_ ?_); exact rfl) | ((with_reducible refine Zat ?_); refine Zam rfl ?_ ?_ <;> intro hb <;> (try simp only [zH] at hb)) | ((with_reducible refine Zau 5 ?_ ?_); (· exact rfl); (first | refine Zaf htb hmz Zcd fF rfl rfl ?_ | refine Zae hmo htb hmz Zcd fF rfl rfl (by kernel_rfl) ?_); intro _ _ _ _ h; simp only [zE, evp, evx, ev1, evLoad, evStore, evBin, evIf, Zab, forall_const, z38, tb, reduceAdd, reduceSub, reduceMul, reduceEqDiff, reduceLeDiff, reduceLT, Nat.reduceBEq, Nat.reduceBNe, ↓reduceIte, reduceIte, spNo] at h; obtain ⟨rfl, rfl, rfl, rfl⟩ := h; refine ⟨?_, ?_⟩) | ((with_reducible refine Ob.mk ?_); first | exact trivial | (intros; omega) | ((repeat' first | apply And.intro | (intro a; have b := a; try simp only [zH] at b)) <;> first | assumption | omega | (simp only [zH]; omega)))
    rw [map_last]
    repeat' first
      | with_reducible first | apply Zar | apply Zan | apply Zaa | apply Zad | apply Zah | apply Zao | apply Zag | apply Zaj | apply Zaq | apply Zas | apply Zap | apply Zal | apply Zac | apply Zak
      | ((with_reducible refine Zai ?_ ?_); exact rfl) | ((with_reducible refine Zat ?_); refine Zam rfl ?_ ?_ <;> intro hb <;> (try simp only [zH] at hb)) | ((with_reducible refine Zau 6 ?_ ?_); (· exact rfl); (first | refine Zaf htb hmz Zcd fF rfl rfl ?_ | refine Zae hmo htb hmz Zcd fF rfl rfl (by kernel_rfl) ?_); intro _ _ _ _ h; simp only [zE, evp, evx, ev1, evLoad, evStore, evBin, evIf, Zab, forall_const, z38, tb, reduceAdd, reduceSub, reduceMul, reduceEqDiff, reduceLeDiff, reduceLT, Nat.reduceBEq, Nat.reduceBNe, ↓reduceIte, reduceIte, spNo] at h; obtain ⟨rfl, rfl, rfl, rfl⟩ := h; refine ⟨?_, ?_⟩) | ((with_reducible refine Ob.mk ?_); first | exact trivial | (intros; omega) | ((repeat' first | apply And.intro | (intro a; have b := a; try simp only [zH] at b)) <;> first | assumption | omega | (simp only [zH]; omega)))
    rw [map_cut]
    have hqm : (q.map fun v : Nat => (v : Int)).length = q.length := List.length_map ..
    have hlq := hP.ll
    have hv0 : ((v : Nat) : Int).toNat = v := Int.toNat_natCast v
    repeat' first
      | with_reducible first | apply Zar | apply Zan | apply Zaa | apply Zad | apply Zah | apply Zao | apply Zag | apply Zaj | apply Zaq | apply Zas | apply Zap | apply Zal | apply Zac | apply Zak
      | ((with_reducible refine Zai ?_ ?_); exact rfl) | ((with_reducible refine Zat ?_); refine Zam rfl ?_ ?_ <;> intro hb <;> (try simp only [zH] at hb)) | ((with_reducible refine Za3 ?_); (first | refine Zaf htb hmz Zcd fF rfl rfl ?_ | refine Zae hmo htb hmz Zcd fF rfl rfl (by kernel_rfl) ?_); intro _ _ _ _ h; simp only [zE, evp, evx, ev1, evLoad, evStore, evBin, evIf, Zab, forall_const, z38, tb, reduceAdd, reduceSub, reduceMul, reduceEqDiff, reduceLeDiff, reduceLT, Nat.reduceBEq, Nat.reduceBNe, ↓reduceIte, reduceIte, spNo] at h; obtain ⟨rfl, rfl, rfl, rfl⟩ := h; refine ⟨?_, ?_⟩) | ((with_reducible refine Ob.mk ?_); first | exact trivial | (intros; omega) | ((repeat' first | apply And.intro | (intro a; have b := a; try simp only [zH] at b)) <;> first | assumption | omega | (simp only [zH]; omega)))
    have hrlv := hrl v hvn
    have hrbv := hrb v hvn
    have hgr : ∀ j, (rws x v).getD j 0 = ((x.getD v []).getD j 0).toNat := fun j => Zgu
    have hgl : (rws x v).length = (x.getD v []).length := Zf5
    generalize hrw : x.getD v [] = rw at *
    refine Za6 (τ := FwJ) (fun t => t.r ≤ rw.length ∧ (FI o.length x (okP p top) f t.out t.l fun u => u = v) ∧ (v = f ∨ t.out.getD v false = true) ∧ 2 * t.out.count false + t.l.length < 2 * out.count false + (q ++ [v]).length ∧ ∀ w, w ∈ (rws x v).take t.r → okP p top w → t.out.getD w false = true) (fun t => ⟨33, [(38, .int .i64 t.r), (37, .int .i64 rw.length), (36, .roI rw), (8, .own 24), (7, .own 5), (3, .rop (.agg (.cons (.roI o) (.cons (.roI p) (.cons (.roII x) .nil))))), (2, .int .i64 top)],
      [(5, some (.bools t.out)), (24, some (.ints (t.l.map fun v : Nat => (v : Int))))], []⟩) (fun t => rw.length - t.r) ⟨out, q, 0⟩ [] ?_ ⟨Nat.zero_le _, hP, hvs, by dsimp only; omega, fun w hw => by simp at hw⟩ ?_
    · (refine ⟨rfl, ?_, ?_⟩ <;> simp only [zE, evp, evx, ev1, evLoad, evStore, evBin, evIf, Zab, forall_const, z38, tb, reduceAdd, reduceSub, reduceMul, reduceEqDiff, reduceLeDiff, reduceLT, Nat.reduceBEq, Nat.reduceBNe, ↓reduceIte, reduceIte, spNo, zI])
    clear hP hvs hlq hqm hd hol hll
    rintro ⟨out2, l, r⟩ ⟨hr, hP, hvs, hms, hdn⟩
    dsimp only at hr hms hvs hdn hP ⊢
    have hol := hP.len
    have hll := hP.ll
    have hlm : (l.map fun v : Nat => (v : Int)).length = l.length := List.length_map ..
    have hrbv := hrbv r
    have hgr := hgr r
    repeat' first
      | with_reducible first | apply Zar | apply Zan | apply Zaa | apply Zad | apply Zah | apply Zao | apply Zag | apply Zaj | apply Zaq | apply Zas | apply Zap | apply Zal | apply Zac | apply Zak
      | ((with_reducible refine Zai ?_ ?_); exact rfl) | ((with_reducible refine Zat ?_); refine Zam rfl ?_ ?_ <;> intro hb <;> (try simp only [zH] at hb)) | ((with_reducible refine Za3 ?_); (first | refine Zaf htb hmz Zcd fF rfl rfl ?_ | refine Zae hmo htb hmz Zcd fF rfl rfl (by kernel_rfl) ?_); intro _ _ _ _ h; simp only [zE, evp, evx, ev1, evLoad, evStore, evBin, evIf, Zab, forall_const, z38, tb, reduceAdd, reduceSub, reduceMul, reduceEqDiff, reduceLeDiff, reduceLT, Nat.reduceBEq, Nat.reduceBNe, ↓reduceIte, reduceIte, spNo] at h; obtain ⟨rfl, rfl, rfl, rfl⟩ := h; refine ⟨?_, ?_⟩) | ((with_reducible refine Ob.mk ?_); first | exact trivial | (intros; omega) | ((repeat' first | apply And.intro | (intro a; have b := a; try simp only [zH] at b)) <;> first | assumption | omega | (simp only [zH]; omega)))
    · have hrr : r < rw.length := by omega
      obtain ⟨u1, u2⟩ := hrbv hrr
      have hed : Ed (rws x) (okP p top) v (rw.getD r 0).toNat := ⟨by
        rw [← hgr, List.getD_eq_getElem?_getD, List.getElem?_eq_getElem (by omega)]; exact List.getElem_mem _, hb.1⟩
      have hun : (rw.getD r 0).toNat < o.length := by omega
      have hcf := Zix (l := out2) (t := (rw.getD r 0).toNat) (by omega) hb.2
      have hgs : ∀ u, (out2.set (rw.getD r 0).toNat true).getD u false = if u = (rw.getD r 0).toNat then true else out2.getD u false := fun u => Zdx (by omega)
      refine back ⟨out2.set (rw.getD r 0).toNat true, l ++ [(rw.getD r 0).toNat], r + 1⟩ [(24, 58)] ?_ ⟨by dsimp only; omega, FI_add hP hvn hvs hun hed hb.2, ?_, ?_, fun w hw ho => ?_⟩ (by dsimp only; omega)
      · (refine ⟨rfl, ?_, ?_⟩ <;> simp only [zE, evp, evx, ev1, evLoad, evStore, evBin, evIf, Zab, forall_const, z38, tb, reduceAdd, reduceSub, reduceMul, reduceEqDiff, reduceLeDiff, reduceLT, Nat.reduceBEq, Nat.reduceBNe, ↓reduceIte, reduceIte, spNo, zI])
        rw [List.map_append, List.map_cons, List.map_nil]
        have : (((rw.getD r 0).toNat : Nat) : Int) = rw.getD r 0 := by omega
        rw [this]
      · dsimp only
        rw [hgs]
        rcases hvs with h | h
        · exact .inl h
        · right; split
          · rfl
          · exact h
      · dsimp only
        rw [List.length_append, List.length_singleton]; omega
      · dsimp only at hw ⊢
        rw [hgs]
        split
        · rfl
        · rename_i hne
          rw [Zif (d := 0) (by omega), hgr] at hw
          rcases List.mem_append.1 hw with h | h
          · exact hdn w h ho
          · exact absurd (List.mem_singleton.1 h) hne
    · have hrr : r < rw.length := by omega
      refine back ⟨out2, l, r + 1⟩ [] ?_ ⟨by dsimp only; omega, hP, hvs, hms, fun w hw ho => ?_⟩ (by dsimp only; omega)
      · (refine ⟨rfl, ?_, ?_⟩ <;> simp only [zE, evp, evx, ev1, evLoad, evStore, evBin, evIf, Zab, forall_const, z38, tb, reduceAdd, reduceSub, reduceMul, reduceEqDiff, reduceLeDiff, reduceLT, Nat.reduceBEq, Nat.reduceBNe, ↓reduceIte, reduceIte, spNo, zI])
      · dsimp only at hw ⊢
        rw [Zif (d := 0) (by omega), hgr] at hw
        rcases List.mem_append.1 hw with h | h
        · exact hdn w h ho
        · have e := List.mem_singleton.1 h
          rw [e] at ho ⊢
          rcases hb with h2 | h2
          · unfold okP at ho; omega
          · exact h2
    · have hre : r = rw.length := by omega
      subst hre
      refine back ⟨out2, l⟩ [(8, 24)] ?_ (FI_end hP fun t ht => hdn t ?_ ht.2) (by dsimp only; omega)
      · (refine ⟨rfl, ?_, ?_⟩ <;> simp only [zE, evp, evx, ev1, evLoad, evStore, evBin, evIf, Zab, forall_const, z38, tb, reduceAdd, reduceSub, reduceMul, reduceEqDiff, reduceLeDiff, reduceLT, Nat.reduceBEq, Nat.reduceBNe, ↓reduceIte, reduceIte, spNo, zI])
      · rw [List.take_of_length_le (by omega)]; exact ht.1
  have hl0 : l = [] := by
    cases l with
    | nil => rfl
    | cons a l => simp only [List.map_cons, List.length_cons] at hb; omega
  subst hl0
  refine Zdf 5 (.roB out) (by simp only [Za4, Zbf, fzE, fzA, fzR, fzB, set1, nbeq, reduceEqDiff, decide_true, decide_false, ↓reduceIte, reduceIte, cond_true, cond_false, List.take_length, Option.some.injEq]; rfl) (by first | exact rfl | (refine ⟨?_, rfl⟩; first | rfl | (intros; rfl))) (by simp only [Za4, Zbf, fzE, fzA, fzR, fzB, set1, nbeq, reduceEqDiff, decide_true, decide_false, ↓reduceIte, reduceIte, cond_true, cond_false, List.take_length, Option.some.injEq]; rfl) (by simp only [Za4, Zbf, fzE, fzA, fzR, fzB, set1, nbeq, reduceEqDiff, decide_true, decide_false, ↓reduceIte, reduceIte, cond_true, cond_false, List.take_length, Option.some.injEq]; rfl) ?_
  repeat' first
    | with_reducible first | apply Zar | apply Zan | apply Zaa | apply Zad | apply Zah | apply Zao | apply Zag | apply Zaj | apply Zaq | apply Zas | apply Zap | apply Zal | apply Zac | apply Zak
    | ((with_reducible refine Zai ?_ ?_); exact rfl) | ((with_reducible refine Zat ?_); refine Zam rfl ?_ ?_ <;> intro hb <;> (try simp only [zH] at hb)) | ((with_reducible refine Za3 ?_); (first | refine Zaf htb hmz Zcd fF rfl rfl ?_ | refine Zae hmo htb hmz Zcd fF rfl rfl (by kernel_rfl) ?_); intro _ _ _ _ h; simp only [zE, evp, evx, ev1, evLoad, evStore, evBin, evIf, Zab, forall_const, z38, tb, reduceAdd, reduceSub, reduceMul, reduceEqDiff, reduceLeDiff, reduceLT, Nat.reduceBEq, Nat.reduceBNe, ↓reduceIte, reduceIte, spNo] at h; obtain ⟨rfl, rfl, rfl, rfl⟩ := h; refine ⟨?_, ?_⟩) | ((with_reducible refine Ob.mk ?_); first | exact trivial | (intros; omega) | ((repeat' first | apply And.intro | (intro a; have b := a; try simp only [zH] at b)) <;> first | assumption | omega | (simp only [zH]; omega)))
  refine Zaz rfl rfl (Zav rfl ?_ rfl)
  refine congrArg AV.roB (reachL_eq hol fun v hv => ?_)
  exact FI_done hd (by omega) (fun v hv t ht => by
      obtain ⟨j, hj, rfl⟩ := List.getElem_of_mem ht
      rw [Zf5] at hj
      have := hrb v hv j hj
      have e : (rws x v)[j] = (rws x v).getD j 0 := by rw [List.getD_eq_getElem?_getD, List.getElem?_eq_getElem (by rw [Zf5]; exact hj)]; rfl
      rw [e, Zgu]; omega) hv
section
open Pl
def Low (E : Nat → Nat → Prop) (pri : Nat → Int) (w a b : Nat) : Prop := E a b ∧ pri b ≤ pri w
def Cyc (E : Nat → Nat → Prop) (pri : Nat → Int) (w : Nat) : Prop := ∃ t, Low E pri w w t ∧ Rch (Low E pri w) t w
theorem Rch.cons {E : Nat → Nat → Prop} {a b c : Nat} (h : E a b) (h2 : Rch E b c) : Rch E a c := Rch.trans (Rch.one h) h2
def OnC (E : Nat → Nat → Prop) (pri : Nat → Int) (w t z : Nat) : Prop := Rch (Low E pri w) t z ∧ Rch (Low E pri w) z w
theorem cyc_to {E E' : Nat → Nat → Prop} {pri : Nat → Int} {w t : Nat} (ht : Low E pri w w t) (htw : Rch (Low E pri w) t w) (h : ∀ a b, OnC E pri w t a → OnC E pri w t b → E a b → E' a b) : Cyc E' pri w := by
  have hw : OnC E pri w t w := ⟨htw, .refl _⟩
  refine ⟨t, ⟨h w t hw ⟨.refl _, htw⟩ ht.1, ht.2⟩, ?_⟩
  have key : ∀ c, Rch (Low E pri w) t c → Rch (Low E pri w) c w → Rch (Low E' pri w) t c := by
    intro c hc
    induction hc with
    | refl => intro _; exact .refl _
    | step h1 e ih =>
      intro h2
      have h3 := Rch.cons e h2
      exact .step (ih h3) ⟨h _ _ ⟨h1, h3⟩ ⟨.step h1 e, h2⟩ e.1, e.2⟩
  exact key w htw (.refl _)
variable (own pri : Nat → Int) (sx : Nat → List Nat)
def Stp (K : Nat → Prop) (W : Nat → Int) (c : Nat → Nat) (p : Int) (v t : Nat) : Prop := (K v ∧ W v = p) ∧ K t ∧ (own v = p → t = c v) ∧ (own v ≠ p → t ∈ sx v)
structure Sol (K : Nat → Prop) (W : Nat → Int) (c : Nat → Nat) (p : Int) : Prop where
  mine : ∀ v, K v → W v = p → own v = p → c v ∈ sx v ∧ K (c v) ∧ W (c v) = p
  his : ∀ v, K v → W v = p → own v ≠ p → ∀ t, t ∈ sx v → K t → W t = p
  cyc : ∀ w, K w → W w = p → pri w % 2 ≠ p → ¬ Cyc (Stp own sx K W c p) pri w
variable {own pri sx}
variable {K A T R : Nat → Prop} {W W' : Nat → Int} {c c' : Nat → Nat} {r : Nat → Nat} {p q : Int}
variable {B : Nat → Prop} {W2 : Nat → Int} {cA : Nat → Nat} {rA rB : Nat → Nat}
theorem Sol.none (h : ∀ v, ¬ K v) : Sol own pri sx K W c p := ⟨fun v hv => absurd hv (h v), fun v hv => absurd hv (h v), fun v hv => absurd hv (h v)⟩
theorem mod2 (x : Int) : x % 2 = 0 ∨ x % 2 = 1 := by omega
end
open Go Pl
noncomputable def Zcb : Spec
  | [.agg (.cons (.roI o) (.cons (.roI p) (.cons (.roII x) .nil))), .int .i64 q] => some ⟨Zbh ⟨o, p, x⟩ = true, .own 0, some (.bools (Zdg ⟨o, p, x⟩ q))⟩
  | _ => none
noncomputable def Zd1 : Nat → Option Spec
  | 54 => some Zcu
  | _ => none
theorem Zby : SpOK Tryd.prog Zd1 := by
  intro f S h
  unfold Zd1 at h
  split at h
  · cases h; exact reaches_ok
  · cases h
set_option maxRecDepth 4000 in
set_option maxHeartbeats 4000000 in
theorem aloneo_ok : Zcm Tryd.prog 33 Zcb := by
  refine Zbe htb (fn := Tryd.f33) (by kernel_rfl) (by kernel_rfl) rfl (fun args r hS => ?_) (fun args r hS hob hl => ?_)
  · unfold Zcb at hS; split at hS <;> first | (cases hS; done) | (cases hS; exact Nat.le_of_ble_eq_true rfl)
  unfold Zcb at hS
  split at hS
  case h_2 => cases hS
  rename_i o p x pl
  simp only [Option.some.injEq] at hS
  subst hS
  simp only [lenP, mkL, lim] at hl
  dsimp only at hob
  have hv := hob
  have hV := validB_iff.1 hv
  obtain ⟨hn, hpl, hxl, hpos⟩ := id hV
  simp only [Gm.n] at hn hpl hxl
  have hrb : ∀ v, v < o.length → ∀ j, j < (x.getD v []).length → 0 ≤ (x.getD v []).getD j 0 ∧ (x.getD v []).getD j 0 < o.length := fun v h j hj => by
    obtain ⟨_, hr⟩ := hpos v (by simp only [Gm.n]; omega)
    exact ⟨(hr j hj).1, (hr j hj).2.1⟩
  have hpr : ∀ v, v < o.length → 0 ≤ p.getD v 0 ∧ p.getD v 0 ≤ 60 := fun v h => by
    obtain ⟨⟨a1, a2, a3, a4, _, a6⟩, _⟩ := hpos v (by simp only [Gm.n]; omega)
    exact ⟨a3, a4⟩
  have hrow : ∀ v, v < o.length → ∀ t, t ∈ rws x v → t < o.length := fun v hv t ht => by
    obtain ⟨j, hj, rfl⟩ := List.getElem_of_mem ht
    rw [Zf5] at hj
    have := hrb v hv j hj
    have e : (rws x v)[j] = (rws x v).getD j 0 := by rw [List.getD_eq_getElem?_getD, List.getElem?_eq_getElem (by rw [Zf5]; exact hj)]; rfl
    rw [e, Zgu]; omega
  have hRl : ∀ s top, (Zdz ⟨o, p, x⟩ s top).length = o.length := fun s top => reachL_len
  have hz : ∀ f : Nat → Bool, List.replicate o.length false = mix f (fun _ => false) o.length 0 := fun f => List.ext_getElem (by simp [mix]) fun j h1 h2 => by simp [mix]
  repeat' first
    | with_reducible first | apply Zar | apply Zan | apply Zaa | apply Zad | apply Zah | apply Zao | apply Zag | apply Zaj | apply Zaq | apply Zas | apply Zap | apply Zal | apply Zac | apply Zak
    | ((with_reducible refine Zai ?_ ?_); exact rfl) | ((with_reducible refine Zat ?_); refine Zam rfl ?_ ?_ <;> intro hb <;> (try simp only [zH] at hb)) | ((with_reducible refine Za3 ?_); (first | refine Zaf htb hmz Zby fF rfl rfl ?_ | refine Zae hmo htb hmz Zby fF rfl rfl (by kernel_rfl) ?_); intro _ _ _ _ h; simp only [zE, evp, evx, ev1, evLoad, evStore, evBin, evIf, Zab, forall_const, z38, tb, reduceAdd, reduceSub, reduceMul, reduceEqDiff, reduceLeDiff, reduceLT, Nat.reduceBEq, Nat.reduceBNe, ↓reduceIte, reduceIte, Zd1, Zcu] at h; obtain ⟨rfl, rfl, rfl, rfl⟩ := h; refine ⟨?_, ?_⟩) | ((with_reducible refine Ob.mk ?_); first | exact trivial | (intros; omega) | ((repeat' first | apply And.intro | (intro a; have b := a; try simp only [zH] at b)) <;> first | assumption | omega | (simp only [zH]; omega)))
  refine Za6 (τ := Nat) (fun i => i ≤ o.length) (fun i => ⟨10, [(17, .int .i64 i), (16, .int .i64 o.length), (5, .own 5), (2, .rop (.agg (.cons (.roI o) (.cons (.roI p) (.cons (.roII x) .nil))))), (1, .int .i64 pl)],
    [(5, some (.bools (mix (Zey ⟨o, p, x⟩ pl) (fun _ => false) o.length i)))], []⟩) (fun i => o.length - i) 0 [] ?_ (Nat.zero_le _) ?_
  · (refine ⟨rfl, ?_, ?_⟩ <;> simp only [zE, evp, evx, ev1, evLoad, evStore, evBin, evIf, Zab, forall_const, z38, tb, reduceAdd, reduceSub, reduceMul, reduceEqDiff, reduceLeDiff, reduceLT, Nat.reduceBEq, Nat.reduceBNe, ↓reduceIte, reduceIte, Zd1, Zcu, zI])
    · rw [List.length_replicate]
    · exact hz _
  intro i hi
  have hm1 : (mix (Zey ⟨o, p, x⟩ pl) (fun _ => false) o.length i).length = o.length := Zh0
  have hRl1 := hRl i (p.getD i 0)
  have hpr1 := hpr i
  repeat' first
    | with_reducible first | apply Zar | apply Zan | apply Zaa | apply Zad | apply Zah | apply Zao | apply Zag | apply Zaj | apply Zaq | apply Zas | apply Zap | apply Zal | apply Zac | apply Zak
    | ((with_reducible refine Zai ?_ ?_); exact rfl) | ((with_reducible refine Zat ?_); refine Zam rfl ?_ ?_ <;> intro hb <;> (try simp only [zH] at hb)) | ((with_reducible refine Zau 5 ?_ ?_); (· exact rfl); (with_reducible refine Zau 7 ?_ ?_); (· exact rfl); (first | refine Zaf htb hmz Zby fF rfl rfl ?_ | refine Zae hmo htb hmz Zby fF rfl rfl (by kernel_rfl) ?_); intro _ _ _ _ h; simp only [zE, evp, evx, ev1, evLoad, evStore, evBin, evIf, Zab, forall_const, z38, tb, reduceAdd, reduceSub, reduceMul, reduceEqDiff, reduceLeDiff, reduceLT, Nat.reduceBEq, Nat.reduceBNe, ↓reduceIte, reduceIte, Zd1, Zcu] at h; obtain ⟨rfl, rfl, rfl, rfl⟩ := h; refine ⟨?_, ?_⟩) | ((with_reducible refine Ob.mk ?_); first | exact trivial | (intros; omega) | ((repeat' first | apply And.intro | (intro a; have b := a; try simp only [zH] at b)) <;> first | assumption | omega | (simp only [zH]; omega)))
  · repeat' first
      | with_reducible first | apply Zar | apply Zan | apply Zaa | apply Zad | apply Zah | apply Zao | apply Zag | apply Zaj | apply Zaq | apply Zas | apply Zap | apply Zal | apply Zac | apply Zak
      | ((with_reducible refine Zai ?_ ?_); exact rfl) | ((with_reducible refine Zat ?_); refine Zam rfl ?_ ?_ <;> intro hb <;> (try simp only [zH] at hb)) | ((with_reducible refine Za3 ?_); (first | refine Zaf htb hmz Zby fF rfl rfl ?_ | refine Zae hmo htb hmz Zby fF rfl rfl (by kernel_rfl) ?_); intro _ _ _ _ h; simp only [zE, evp, evx, ev1, evLoad, evStore, evBin, evIf, Zab, forall_const, z38, tb, reduceAdd, reduceSub, reduceMul, reduceEqDiff, reduceLeDiff, reduceLT, Nat.reduceBEq, Nat.reduceBNe, ↓reduceIte, reduceIte, Zd1, Zcu] at h; obtain ⟨rfl, rfl, rfl, rfl⟩ := h; refine ⟨?_, ?_⟩) | ((with_reducible refine Ob.mk ?_); first | exact trivial | (intros; omega) | ((repeat' first | apply And.intro | (intro a; have b := a; try simp only [zH] at b)) <;> first | assumption | omega | (simp only [zH]; omega)))
    refine back (i + 1) [] ?_ (by omega) (by omega)
    (refine ⟨rfl, ?_, ?_⟩ <;> simp only [zE, evp, evx, ev1, evLoad, evStore, evBin, evIf, Zab, forall_const, z38, tb, reduceAdd, reduceSub, reduceMul, reduceEqDiff, reduceLeDiff, reduceLT, Nat.reduceBEq, Nat.reduceBNe, ↓reduceIte, reduceIte, Zd1, Zcu, zI])
    exact Zhz
  have hie : i = o.length := by omega
  subst hie
  rw [Zh1]
  have hgg : ∀ w, w < o.length → ((List.range o.length).map (Zey ⟨o, p, x⟩ pl)).getD w false = Zey ⟨o, p, x⟩ pl w := fun w hw => by simp [List.getD_eq_getElem?_getD, hw]
  have hgl : ((List.range o.length).map (Zey ⟨o, p, x⟩ pl)).length = o.length := by simp
  generalize (List.range o.length).map (Zey ⟨o, p, x⟩ pl) = good at *
  clear hpr1
  repeat' first
    | with_reducible first | apply Zar | apply Zan | apply Zaa | apply Zad | apply Zah | apply Zao | apply Zag | apply Zaj | apply Zaq | apply Zas | apply Zap | apply Zal | apply Zac | apply Zak
    | ((with_reducible refine Zai ?_ ?_); exact rfl) | ((with_reducible refine Zat ?_); refine Zam rfl ?_ ?_ <;> intro hb <;> (try simp only [zH] at hb)) | ((with_reducible refine Za3 ?_); (first | refine Zaf htb hmz Zby fF rfl rfl ?_ | refine Zae hmo htb hmz Zby fF rfl rfl (by kernel_rfl) ?_); intro _ _ _ _ h; simp only [zE, evp, evx, ev1, evLoad, evStore, evBin, evIf, Zab, forall_const, z38, tb, reduceAdd, reduceSub, reduceMul, reduceEqDiff, reduceLeDiff, reduceLT, Nat.reduceBEq, Nat.reduceBNe, ↓reduceIte, reduceIte, Zd1, Zcu] at h; obtain ⟨rfl, rfl, rfl, rfl⟩ := h; refine ⟨?_, ?_⟩) | ((with_reducible refine Ob.mk ?_); first | exact trivial | (intros; omega) | ((repeat' first | apply And.intro | (intro a; have b := a; try simp only [zH] at b)) <;> first | assumption | omega | (simp only [zH]; omega)))
  refine Za6 (τ := Nat) (fun i => i ≤ o.length) (fun i => ⟨19, [(51, .int .i64 i), (50, .int .i64 o.length), (7, .own 14), (5, .own 5), (2, .rop (.agg (.cons (.roI o) (.cons (.roI p) (.cons (.roII x) .nil))))), (1, .int .i64 pl)],
    [(5, some (.bools good)), (14, some (.bools (mix (fun v => Zd3 ⟨o, p, x⟩ pl v o.length) (fun _ => false) o.length i)))], []⟩) (fun i => o.length - i) 0 [] ?_ (Nat.zero_le _) ?_
  · (refine ⟨rfl, ?_, ?_⟩ <;> simp only [zE, evp, evx, ev1, evLoad, evStore, evBin, evIf, Zab, forall_const, z38, tb, reduceAdd, reduceSub, reduceMul, reduceEqDiff, reduceLeDiff, reduceLT, Nat.reduceBEq, Nat.reduceBNe, ↓reduceIte, reduceIte, Zd1, Zcu, zI])
    · rw [List.length_replicate]
    · exact hz _
  intro i hi
  have hm1 : (mix (fun v => Zd3 ⟨o, p, x⟩ pl v o.length) (fun _ => false) o.length i).length = o.length := Zh0
  have hRl1 := hRl i 60
  have hgg1 := hgg i
  repeat' first
    | with_reducible first | apply Zar | apply Zan | apply Zaa | apply Zad | apply Zah | apply Zao | apply Zag | apply Zaj | apply Zaq | apply Zas | apply Zap | apply Zal | apply Zac | apply Zak
    | ((with_reducible refine Zai ?_ ?_); exact rfl) | ((with_reducible refine Zat ?_); refine Zam rfl ?_ ?_ <;> intro hb <;> (try simp only [zH] at hb)) | ((with_reducible refine Zau 13 ?_ ?_); (· exact rfl); (with_reducible refine Zau 18 ?_ ?_); (· exact rfl); (first | refine Zaf htb hmz Zby fF rfl rfl ?_ | refine Zae hmo htb hmz Zby fF rfl rfl (by kernel_rfl) ?_); intro _ _ _ _ h; simp only [zE, evp, evx, ev1, evLoad, evStore, evBin, evIf, Zab, forall_const, z38, tb, reduceAdd, reduceSub, reduceMul, reduceEqDiff, reduceLeDiff, reduceLT, Nat.reduceBEq, Nat.reduceBNe, ↓reduceIte, reduceIte, Zd1, Zcu] at h; obtain ⟨rfl, rfl, rfl, rfl⟩ := h; refine ⟨?_, ?_⟩) | ((with_reducible refine Ob.mk ?_); first | exact trivial | (intros; omega) | ((repeat' first | apply And.intro | (intro a; have b := a; try simp only [zH] at b)) <;> first | assumption | omega | (simp only [zH]; omega)))
  · have hin : i < o.length := by omega
    rw [hgg1 hin]
    have hms : (mix (fun v => Zd3 ⟨o, p, x⟩ pl v o.length) (fun _ => false) o.length i).set i (Zd3 ⟨o, p, x⟩ pl i o.length) = mix (fun v => Zd3 ⟨o, p, x⟩ pl v o.length) (fun _ => false) o.length (i + 1) := Zhz
    generalize hM : mix (fun v => Zd3 ⟨o, p, x⟩ pl v o.length) (fun _ => false) o.length i = M at *
    have hj1 : ∀ j, Zd3 ⟨o, p, x⟩ pl i (j + 1) = (Zd3 ⟨o, p, x⟩ pl i j || (Zdz ⟨o, p, x⟩ i 60).getD j false && Zey ⟨o, p, x⟩ pl j) := fun j => rfl
    have hj0 : Zey ⟨o, p, x⟩ pl i = Zd3 ⟨o, p, x⟩ pl i 0 := rfl
    rw [hj0]
    generalize hR : Zdz ⟨o, p, x⟩ i 60 = R at *
    generalize hS : Zd3 ⟨o, p, x⟩ pl i = S at *
    refine Za6 (τ := Nat) (fun j => j ≤ o.length) (fun j => ⟨35, [(65, .int .i64 j), (64, .int .i64 o.length), (63, .roB R), (8, .int .i64 i), (51, .int .i64 i), (50, .int .i64 o.length), (7, .own 14), (5, .own 5), (2, .rop (.agg (.cons (.roI o) (.cons (.roI p) (.cons (.roII x) .nil))))), (1, .int .i64 pl)],
      [(5, some (.bools good)), (14, some (.bools (M.set i (S j))))], []⟩) (fun j => o.length - j) 0 [] ?_ (Nat.zero_le _) ?_
    · (refine ⟨rfl, ?_, ?_⟩ <;> simp only [zE, evp, evx, ev1, evLoad, evStore, evBin, evIf, Zab, forall_const, z38, tb, reduceAdd, reduceSub, reduceMul, reduceEqDiff, reduceLeDiff, reduceLT, Nat.reduceBEq, Nat.reduceBNe, ↓reduceIte, reduceIte, Zd1, Zcu, zI])
      rw [hRl1]
    intro j hj
    have hgg2 := hgg j
    have hml : (M.set i (S j)).length = o.length := by rw [List.length_set, hm1]
    have hMg : (M.set i (S j)).getD i false = S j := by rw [Zdx (by omega), if_pos rfl]
    have hj1 := hj1 j
    generalize hM2 : M.set i (S j) = M2 at *
    repeat' first
      | with_reducible first | apply Zar | apply Zan | apply Zaa | apply Zad | apply Zah | apply Zao | apply Zag | apply Zaj | apply Zaq | apply Zas | apply Zap | apply Zal | apply Zac | apply Zak
      | ((with_reducible refine Zai ?_ ?_); exact rfl) | ((with_reducible refine Zat ?_); refine Zam rfl ?_ ?_ <;> intro hb <;> (try simp only [zH] at hb)) | ((with_reducible refine Zau 15 ?_ ?_); (· exact rfl); (with_reducible refine Zau 17 ?_ ?_); (· exact rfl); (first | refine Zaf htb hmz Zby fF rfl rfl ?_ | refine Zae hmo htb hmz Zby fF rfl rfl (by kernel_rfl) ?_); intro _ _ _ _ h; simp only [zE, evp, evx, ev1, evLoad, evStore, evBin, evIf, Zab, forall_const, z38, tb, reduceAdd, reduceSub, reduceMul, reduceEqDiff, reduceLeDiff, reduceLT, Nat.reduceBEq, Nat.reduceBNe, ↓reduceIte, reduceIte, Zd1, Zcu] at h; obtain ⟨rfl, rfl, rfl, rfl⟩ := h; refine ⟨?_, ?_⟩) | ((with_reducible refine Ob.mk ?_); first | exact trivial | (intros; omega) | ((repeat' first | apply And.intro | (intro a; have b := a; try simp only [zH] at b)) <;> first | assumption | omega | (simp only [zH]; omega)))
    · have hjn : j < o.length := by omega
      rw [← hgg2 hjn] at hj1
      rw [← hMg] at hj1
      repeat' first
        | with_reducible first | apply Zar | apply Zan | apply Zaa | apply Zad | apply Zah | apply Zao | apply Zag | apply Zaj | apply Zaq | apply Zas | apply Zap | apply Zal | apply Zac | apply Zak
        | ((with_reducible refine Zai ?_ ?_); exact rfl) | ((with_reducible refine Zat ?_); refine Zam rfl ?_ ?_ <;> intro hb <;> (try simp only [zH] at hb)) | ((with_reducible refine Za3 ?_); (first | refine Zaf htb hmz Zby fF rfl rfl ?_ | refine Zae hmo htb hmz Zby fF rfl rfl (by kernel_rfl) ?_); intro _ _ _ _ h; simp only [zE, evp, evx, ev1, evLoad, evStore, evBin, evIf, Zab, forall_const, z38, tb, reduceAdd, reduceSub, reduceMul, reduceEqDiff, reduceLeDiff, reduceLT, Nat.reduceBEq, Nat.reduceBNe, ↓reduceIte, reduceIte, Zd1, Zcu] at h; obtain ⟨rfl, rfl, rfl, rfl⟩ := h; refine ⟨?_, ?_⟩) | ((with_reducible refine Ob.mk ?_); first | exact trivial | (intros; omega) | ((repeat' first | apply And.intro | (intro a; have b := a; try simp only [zH] at b)) <;> first | assumption | omega | (simp only [zH]; omega)))
      · exact Ob.mk ⟨⟨⟨⟨⟨⟨⟨by omega, by omega⟩, by omega⟩, fun h => ⟨h, by omega, by omega⟩⟩, fun h => ⟨h, by omega⟩⟩, fun h => ⟨h, fun h2 => by rw [h, h2]; rfl⟩⟩, by omega, by omega⟩, by omega⟩
      refine back (j + 1) [] ?_ (by omega) (by omega)
      (refine ⟨rfl, ?_, ?_⟩ <;> simp only [zE, evp, evx, ev1, evLoad, evStore, evBin, evIf, Zab, forall_const, z38, tb, reduceAdd, reduceSub, reduceMul, reduceEqDiff, reduceLeDiff, reduceLT, Nat.reduceBEq, Nat.reduceBNe, ↓reduceIte, reduceIte, Zd1, Zcu, zI])
      rw [← hj1, ← hM2, List.set_set]
    have hje : j = o.length := by omega
    subst hje
    repeat' first
      | with_reducible first | apply Zar | apply Zan | apply Zaa | apply Zad | apply Zah | apply Zao | apply Zag | apply Zaj | apply Zaq | apply Zas | apply Zap | apply Zal | apply Zac | apply Zak
      | ((with_reducible refine Zai ?_ ?_); exact rfl) | ((with_reducible refine Zat ?_); refine Zam rfl ?_ ?_ <;> intro hb <;> (try simp only [zH] at hb)) | ((with_reducible refine Za3 ?_); (first | refine Zaf htb hmz Zby fF rfl rfl ?_ | refine Zae hmo htb hmz Zby fF rfl rfl (by kernel_rfl) ?_); intro _ _ _ _ h; simp only [zE, evp, evx, ev1, evLoad, evStore, evBin, evIf, Zab, forall_const, z38, tb, reduceAdd, reduceSub, reduceMul, reduceEqDiff, reduceLeDiff, reduceLT, Nat.reduceBEq, Nat.reduceBNe, ↓reduceIte, reduceIte, Zd1, Zcu] at h; obtain ⟨rfl, rfl, rfl, rfl⟩ := h; refine ⟨?_, ?_⟩) | ((with_reducible refine Ob.mk ?_); first | exact trivial | (intros; omega) | ((repeat' first | apply And.intro | (intro a; have b := a; try simp only [zH] at b)) <;> first | assumption | omega | (simp only [zH]; omega)))
    refine back (i + 1) [] ?_ (by omega) (by omega)
    (refine ⟨rfl, ?_, ?_⟩ <;> simp only [zE, evp, evx, ev1, evLoad, evStore, evBin, evIf, Zab, forall_const, z38, tb, reduceAdd, reduceSub, reduceMul, reduceEqDiff, reduceLeDiff, reduceLT, Nat.reduceBEq, Nat.reduceBNe, ↓reduceIte, reduceIte, Zd1, Zcu, zI])
    rw [← hM2]; exact hms
  have hie : i = o.length := by omega
  subst hie
  rw [Zh1]
  have hL : ((List.range o.length).map fun v => Zd3 ⟨o, p, x⟩ pl v o.length) = Zdg ⟨o, p, x⟩ pl := by
    refine aloneL_eq (by simp) fun v hv => ?_
    rw [← rsome_all (g := ⟨o, p, x⟩) (fun v hv => (hpr v hv).2) hrow hv]
    have : ((List.range o.length).map fun v => Zd3 ⟨o, p, x⟩ pl v o.length).getD v false = Zd3 ⟨o, p, x⟩ pl v o.length := by
      have : v < o.length := hv
      simp [List.getD_eq_getElem?_getD, this]
    rw [this]
  rw [hL]
  repeat' first
    | with_reducible first | apply Zar | apply Zan | apply Zaa | apply Zad | apply Zah | apply Zao | apply Zag | apply Zaj | apply Zaq | apply Zas | apply Zap | apply Zal | apply Zac | apply Zak
    | ((with_reducible refine Zai ?_ ?_); exact rfl) | ((with_reducible refine Zat ?_); refine Zam rfl ?_ ?_ <;> intro hb <;> (try simp only [zH] at hb)) | ((with_reducible refine Za3 ?_); (first | refine Zaf htb hmz Zby fF rfl rfl ?_ | refine Zae hmo htb hmz Zby fF rfl rfl (by kernel_rfl) ?_); intro _ _ _ _ h; simp only [zE, evp, evx, ev1, evLoad, evStore, evBin, evIf, Zab, forall_const, z38, tb, reduceAdd, reduceSub, reduceMul, reduceEqDiff, reduceLeDiff, reduceLT, Nat.reduceBEq, Nat.reduceBNe, ↓reduceIte, reduceIte, Zd1, Zcu] at h; obtain ⟨rfl, rfl, rfl, rfl⟩ := h; refine ⟨?_, ?_⟩) | ((with_reducible refine Ob.mk ?_); first | exact trivial | (intros; omega) | ((repeat' first | apply And.intro | (intro a; have b := a; try simp only [zH] at b)) <;> first | assumption | omega | (simp only [zH]; omega)))
  refine Zaz rfl rfl (spec_own 14 rfl rfl rfl rfl rfl (Nat.lt_of_lt_of_le (by decide : 14 < 22) (Nat.le_refl 22)))
open Go
section
variable {P : Program} {ro : Option Nat} {N κ : Nat} {tb : Nat → Option TI}
theorem Zeb {id : Nat} {ops : Array Oper} {σ : St} {Q : Exit → St → Prop} (l1 : List Oper) {o : Oper} (l2 : List Oper) (he : ops = (l1 ++ o :: l2).toArray) (hG : noG (l1 ++ o :: l2) = true)
    (h : awpL P ro N κ l1 σ (Zek (fun s => awpL P ro N κ [o] s (Zek (fun s => awpL P ro N κ l2 s Q) Q)) Q)) : awp P ro N κ (.region id ops false) σ Q := by
  subst he
  refine Zc5 hG (Zcc ?_)
  intro n K Z ν w a hg
  refine Zb6 ?_ (h n K Z ν w a hg)
  rintro e a' w' ⟨Z', ν', s', h1, h2, h3, h4⟩
  refine ⟨Z', ν', s', h1, h2, h3, ?_⟩
  cases e with
  | normal => exact Zcc (l1 := [o]) h4
  | _ => exact h4
def rinR (kk : List Nat) (m : Nat) (l : List (Nat × Option Blk)) : List (Nat × Option Blk) → Prop
  | [] => True
  | (k, some B) :: t => (Nat.blt k kk.length = true ∧ menB (ltK kk.length) B ∧ lkr l (rhoC kk m k) = some (renB (rhoC kk m) B)) ∧ rinR kk m l t
  | (_, none) :: t => rinR kk m l t
theorem Zgy {kk : List Nat} {m : Nat} {l : List (Nat × Option Blk)} {k : Nat} {B : Blk} : ∀ {g : List (Nat × Option Blk)}, rinR kk m l g → (k, some B) ∈ g → Nat.blt k kk.length = true ∧ menB (ltK kk.length) B ∧ lkr l (rhoC kk m k) = some (renB (rhoC kk m) B)
  | [], _, h => absurd h List.not_mem_nil
  | (j, none) :: t, hg, h => by
    rcases List.mem_cons.1 h with e | h
    · cases e
    · exact Zgy (g := t) hg h
  | (j, some B') :: t, hg, h => by
    rcases List.mem_cons.1 h with e | h
    · cases e; exact hg.1
    · exact Zgy (g := t) hg.2 h
theorem Zbp {o : Oper} {x : Operand} {xs : List Operand} {ts : Array TypeId} {f m : Nat} {caps : AV} {env : List (Nat × AV)} {l : List (Nat × Option Blk)} {ms : List Nat} (kk : List Nat) {args : List AV} {rin : List (Nat × Option Blk)} {Q0 : GR → Prop} {Q : Exit → St → Prop}
    (hS : FG P f args rin kk.length Q0)
    (ho : o.op = .call ⟨.value x, xs.toArray, ts⟩) (hgd : o.guard.isNone = true) (hd : Zdh N [o] = true) (hf : opv (lke env) x = .fn f caps) (hpc : properL caps = true)
    (hargs : appL (ofL (opv (lke env)) xs) caps = ren (rhoC kk m) (mkL args)) (hmen : men (ltK kk.length) (mkL args) = true) (hkk : kkOK m kk = true) (hκ : Nat.ble κ m = true)
    (hrin : rinR kk m l rin)
    (next : ∀ gm gv gr, Q0 ⟨gm, gv, gr⟩ → ∀ m' e' l', (m + (gm - kk.length) = m' ∧ putE o.dst (ren (rhoC kk m) gv) env = e' ∧ outR kk m gr l = l') → Q .normal (CS.st ⟨m', e', l', ms⟩)) : awpL P ro N κ [o] (CS.st ⟨m, env, l, ms⟩) Q := by
  refine awpL_call (s := ⟨m, env, l, ms⟩) kk hS ho hgd hd hf hpc hargs hmen hkk hκ (fun j B hj => ?_) (fun g hg hle => next g.m g.val g.rs hg _ _ _ ⟨rfl, rfl, rfl⟩)
  obtain ⟨h1, h2, h3⟩ := Zgy hrin (Zdo hj).2
  rw [Nat.blt_eq] at h1
  exact ⟨h1, h2, h3⟩
theorem R_unfz {Z : Nat → Prop} {w : World} {ν : Nat → Value} {k : Nat} {v : Value} (hv : ν k = v) : ∀ {u : AV} {b : Bool} {cs : List Value}, R Z w (fzA k (.cst v) u) ν b cs → R Z w u ν b cs := by
  intro u
  induction u with
  | own j =>
    intro b cs h
    simp only [fzA] at h
    cases hb : Nat.beq j k with
    | true =>
      rw [hb] at h
      obtain rfl := Nat.eq_of_beq_eq_true hb
      rw [show cs = [v] from h]
      show [v] = [ν j]
      rw [hv]
    | false => rw [hb] at h; exact h
  | agg l ih =>
    intro b cs h
    cases b with
    | true => obtain ⟨es, e, r⟩ := h; exact ⟨es, e, ih r⟩
    | false => exact ih (b := true) h
  | tup l ih => intro b cs h; obtain ⟨es, e, r⟩ := h; exact ⟨es, e, ih r⟩
  | cons a t ih1 ih2 => intro b cs h; obtain ⟨x, vs, e, r1, r2⟩ := h; exact ⟨x, vs, e, ih1 r1, ih2 r2⟩
  | fn f c ih => intro b cs h; obtain ⟨vs, e, r⟩ := h; exact ⟨vs, e, ih r⟩
  | whn g u ih => intro b cs h; exact ⟨fun hg => ih (h.1 hg), h.2⟩
  | _ => intro b cs h; exact h
theorem Zfl {c : Code} {m : Nat} {env : List (Nat × AV)} {rs : List (Nat × Option Blk)} {ms : List Nat} {Q : Exit → St → Prop} (k : Nat) (B : Blk) {u : AV} (u' : AV) (hk0 : lkr rs k = some (.box u)) (hu : fzA m (.cst (.slice none 0 0)) u' = u) (hm' : men (ltK (m + 1)) u' = true)
    (hB : B = .ints [] ∨ B = .bools [] ∨ B = .rowsR [] ∨ B = .rows []) {rs' : List (Nat × Option Blk)} (hrs : set1 k (.box u') ((m, some B) :: rs) = rs') (hκ : Nat.ble κ m = true)
    (h : awp P ro N κ c (CS.st ⟨m + 1, env, rs', ms⟩) Q) : awp P ro N κ c (CS.st ⟨m, env, rs, ms⟩) Q := by
  intro n K Z ν w a hg
  have hk : (CS.st ⟨m, env, rs, ms⟩).mu m = false := by show Nat.blt m m = false; rw [nblt]; simp
  have hsat : ∀ w ν, sat Z w ν (.slice none 0 0) (fun _ => False) B := by
    intro w ν
    rcases hB with rfl | rfl | rfl | rfl
    · exact .inl ⟨rfl, rfl, fun _ h => h⟩
    · exact .inl ⟨rfl, rfl, fun _ h => h⟩
    · exact .inl ⟨rfl, rfl, fun _ h => h⟩
    · exact ⟨fun _ => .slice none 0 0, fun _ _ => False, fun _ => False, .inl ⟨rfl, rfl, fun _ h => h⟩, fun j hj => by simp at hj, fun y => ⟨fun h => .inl h, fun h => h.elim id fun ⟨j, hj, _⟩ => by simp at hj⟩⟩
  have hmB : ∀ μ, menB μ B := by intro μ; rcases hB with rfl | rfl | rfl | rfl <;> exact trivial
  have hgr := Zdb (w' := w) (x := .slice none 0 0) (B := B) (F := fun _ => False) hg.rs hg.zk hg.kl hk (Nat.le_refl _) (fun _ _ => rfl) (hsat _ _) (hmB _) (fun y hy => hy.elim)
  have hν := Zbw (ν := ν) (x := .slice none 0 0) hk
  have hmu : ∀ j, addK (CS.st ⟨m, env, rs, ms⟩).mu (some m) j = true → ltK (m + 1) j = true := by
    intro j hj
    simp only [addK, CS.st, ltK, nblt, nbeq, Bool.or_eq_true, decide_eq_true_eq] at hj ⊢
    omega
  have hkm : k ≠ m := by
    rintro rfl
    obtain ⟨Ft, hF⟩ := hg.rs
    have := (hF k _ hk0).1
    rw [hk] at this; cases this
  have hgr2 : GoodRs K Z w (upN ν m (.slice none 0 0)) (ltK (m + 1)) (lkr rs') := by
    have e : updL (CS.st ⟨m, env, rs, ms⟩).rs [(m, some B)] = lkr ((m, some B) :: rs) := by
      funext j
      rw [Za4]
      simp only [updL, lko]
      by_cases hj : j = m
      · subst hj; simp [Nat.beq_refl]
      · simp only [beqN hj, if_neg hj]; rfl
    have := hgr.nu (μ' := ltK (m + 1)) hmu (fun _ _ => rfl)
    rw [e] at this
    obtain ⟨Ft, hF⟩ := this
    have hl : ∀ j, lkr rs' j = if j = k then some (.box u') else lkr ((m, some B) :: rs) j := by
      intro j
      rw [← hrs]
      have : lkr (setW [(k, some (.box u'))] ((m, some B) :: rs)) j = _ := congrFun (Ze4) j
      rw [show setW [(k, some (Blk.box u'))] ((m, some B) :: rs) = set1 k (.box u') ((m, some B) :: rs) from rfl] at this
      rw [this]
      simp only [updL, lko]
      by_cases hj : j = k
      · subst hj; simp [Nat.beq_refl]
      · simp only [beqN hj, if_neg hj]
    have hk1 : lkr ((m, some B) :: rs) k = some (.box u) := by rw [Za4, if_neg hkm]; exact hk0
    refine ⟨Ft, fun j b hj => ?_⟩
    rw [hl j] at hj
    have hdis : ∀ k' b', j ≠ k' → lkr rs' k' = some b' → ∃ b'', lkr ((m, some B) :: rs) k' = some b'' := by
      intro k' b' _ hk'
      rw [hl k'] at hk'
      split at hk'
      · rename_i e; rw [e]; exact ⟨_, hk1⟩
      · exact ⟨_, hk'⟩
    by_cases hjk : j = k
    · rw [if_pos hjk] at hj
      cases hj
      subst hjk
      obtain ⟨g1, g2, g3, g4, g5⟩ := hF _ _ hk1
      refine ⟨g1, hm', ?_, g4, fun k' b' hne hk' => ?_⟩
      · obtain ⟨b, cells, T, s1, s2, s3, s4⟩ := g3
        exact ⟨b, cells, T, s1, s2, R_unfz (k := m) (v := .slice none 0 0) upN_same (by rw [hu]; exact s3), s4⟩
      · obtain ⟨b'', hb⟩ := hdis k' b' hne hk'
        exact g5 k' b'' hne hb
    · rw [if_neg hjk] at hj
      obtain ⟨g1, g2, g3, g4, g5⟩ := hF _ _ hj
      refine ⟨g1, g2, g3, g4, fun k' b' hne hk' => ?_⟩
      obtain ⟨b'', hb⟩ := hdis k' b' hne hk'
      exact g5 k' b'' hne hb
  have hgood : Good K Z N w (upN ν m (.slice none 0 0)) (CS.st ⟨m + 1, env, rs', ms⟩) a := by
    refine ⟨hg.size, Zcp hg.one rfl, fun s => ?_, hgr2, hg.zk, hg.kl, ?_, fun j hj => hmu j (Zb2 j (hg.ml j hj))⟩
    · have := hg.env s
      exact ⟨Zd8 (fun j hj => hmu j (Zb2 j hj)) this.1, R_nu hν this.1 this.2⟩
    · rw [hg.ds]
      exact fmC fun j hj => by rw [hν j (hg.ml j hj)]
  refine wpIn_mono (h n K Z _ w a hgood) ?_
  rintro e a' w' ⟨Z', ν', s', h1, h2, h3, h4⟩
  exact ⟨Z', ν', s', h1, fun j hj => (h2 j hj).trans (Zdl (by rintro rfl; have := Nat.le_of_ble_eq_true hκ; omega)), h3, h4⟩
end
section
open Go Pl
structure GOk (g : Gm) : Prop where
  pl : g.pri.length = g.own.length
  xl : g.nxt.length = g.own.length
  n : g.own.length ≤ 20000
  own : ∀ v, v < g.own.length → g.own.getD v 0 = 0 ∨ g.own.getD v 0 = 1
  pri : ∀ v, v < g.own.length → 0 ≤ g.pri.getD v 0 ∧ g.pri.getD v 0 ≤ 60
  row : ∀ v, v < g.own.length → ∀ t, t ∈ rws g.nxt v → t < g.own.length
  len : ∀ v, v < g.own.length → 0 < (g.nxt.getD v []).length ∧ (g.nxt.getD v []).length ≤ 64
  at' : ∀ v, v < g.own.length → ∀ j, j < (g.nxt.getD v []).length → 0 ≤ (g.nxt.getD v []).getD j 0 ∧ (g.nxt.getD v []).getD j 0 < g.own.length
theorem gok {g : Gm} (h : Zhi g) : GOk g := by
  obtain ⟨hn, hpl, hxl, hpos⟩ := h
  have hr : ∀ v, v < g.own.length → ∀ j, j < (g.nxt.getD v []).length → 0 ≤ (g.nxt.getD v []).getD j 0 ∧ (g.nxt.getD v []).getD j 0 < g.own.length := fun v hv j hj => by
    obtain ⟨_, hr⟩ := hpos v hv
    exact ⟨(hr j hj).1, (hr j hj).2.1⟩
  refine ⟨hpl, hxl, hn, fun v hv => ?_, fun v hv => ?_, fun v hv t ht => ?_, fun v hv => ?_, hr⟩
  · obtain ⟨⟨a1, a2, a3, a4, a5, a6⟩, _⟩ := hpos v hv
    simp only [Gm.o] at a1 a2
    omega
  · obtain ⟨⟨a1, a2, a3, a4, a5, a6⟩, _⟩ := hpos v hv
    exact ⟨a3, a4⟩
  · obtain ⟨s, h1, rfl⟩ := List.mem_map.1 ht
    obtain ⟨j, hj, rfl⟩ := List.getElem_of_mem h1
    have := hr v hv j hj
    rw [List.getD_eq_getElem?_getD, List.getElem?_eq_getElem hj, Option.getD_some] at this
    omega
  · obtain ⟨⟨a1, a2, a3, a4, a5, a6⟩, _⟩ := hpos v hv
    exact ⟨a5, a6⟩
end
section
open Go Pl
theorem Rch.mapD {E E' : Nat → Nat → Prop} {D : Nat → Prop} {f : Nat → Nat} (h : ∀ a b, D a → E a b → E' (f a) (f b) ∧ D b) {a b : Nat} (hr : Rch E a b) (ha : D a) : Rch E' (f a) (f b) ∧ D b := by
  induction hr with
  | refl => exact ⟨.refl _, ha⟩
  | step _ e ih => exact ⟨.step ih.1 (h _ _ ih.2 e).1, (h _ _ ih.2 e).2⟩
theorem Zhm {k : List Bool} {v : Nat} (h : k.getD v false = true) : ∀ {n : Nat}, v < n → (kp k v).length < (kp k n).length ∧ (kp k n).getD (kp k v).length 0 = v
  | 0, hv => absurd hv (Nat.not_lt_zero v)
  | n + 1, hv => by
    rw [Zh4]
    by_cases e : v = n
    · subst e
      rw [if_pos h]
      refine ⟨by simp, ?_⟩
      rw [List.getD_eq_getElem?_getD, List.getElem?_append_right (Nat.le_refl _), Nat.sub_self]; rfl
    · obtain ⟨h1, h2⟩ := Zhm h (n := n) (by omega)
      split
      · refine ⟨by rw [List.length_append, List.length_singleton]; omega, ?_⟩
        rw [List.getD_eq_getElem?_getD, List.getElem?_append_left h1, ← List.getD_eq_getElem?_getD]; exact h2
      · exact ⟨h1, h2⟩
theorem Zi4 {k : List Bool} {n i : Nat} (h : i < (kp k n).length) : (kp k n).getD i 0 < n ∧ k.getD ((kp k n).getD i 0) false = true := by
  have hm : (kp k n).getD i 0 ∈ kp k n := by
    rw [List.getD_eq_getElem?_getD, List.getElem?_eq_getElem h]; exact List.getElem_mem h
  have := List.mem_filter.1 hm
  exact ⟨List.mem_range.1 this.1, this.2⟩
theorem Ze3 {α : Type} {f : Nat → α} {l : List Nat} {i : Nat} {d : α} (h : i < l.length) : (l.map f).getD i d = f (l.getD i 0) := by
  simp [List.getD_eq_getElem?_getD, h]
theorem map_getDI {f : Int → Int} {l : List Int} {i : Nat} (h : i < l.length) : (l.map f).getD i 0 = f (l.getD i 0) := by
  simp [List.getD_eq_getElem?_getD, h]
def selL (g : Gm) (W : List Int) (p : Int) : List Bool := (List.range g.own.length).map fun v => decide (W.getD v 0 = p)
theorem Zd2 {g : Gm} {W : List Int} {p : Int} {v : Nat} (hv : v < g.own.length) : (selL g W p).getD v false = true ↔ W.getD v 0 = p := by
  simp [selL, List.getD_eq_getElem?_getD, hv]
def nmF (k : List Bool) (v : Nat) : Int := if k.getD v false = true then ((kp k v).length : Int) else -1
def nxF (g : Gm) (C : List Int) (p : Int) (v : Nat) : List Int := if g.own.getD v 0 = p then [C.getD v 0] else g.nxt.getD v []
def folG (g : Gm) (W C : List Int) (p : Int) : Gm := ⟨(kp (selL g W p) g.own.length).map fun v => g.own.getD v 0, (kp (selL g W p) g.own.length).map fun v => g.pri.getD v 0, (kp (selL g W p) g.own.length).map fun v => (nxF g C p v).map fun t => nmF (selL g W p) t.toNat⟩
open Classical in
noncomputable def cloB (g : Gm) (W C : List Int) (p : Int) : Bool := decide (∀ v, v < g.own.length → W.getD v 0 = p → ∀ t, t ∈ nxF g C p v → W.getD t.toNat 0 = p)
open Classical in
noncomputable def Zb0 (g : Gm) (W C : List Int) : Bool := decide (W.length = g.own.length ∧ C.length = g.own.length ∧ ∀ v, v < g.own.length → (W.getD v 0 = 0 ∨ W.getD v 0 = 1) ∧ (g.own.getD v 0 = W.getD v 0 → C.getD v 0 ∈ g.nxt.getD v []) ∧ (g.own.getD v 0 ≠ W.getD v 0 → C.getD v 0 = -1))
noncomputable def slP (g : Gm) (W C : List Int) (p : Int) : Bool := cloB g W C p && !(Zdg (folG g W C p) (1 - p)).any id
noncomputable def solB (g : Gm) (W C : List Int) : Bool := Zb0 g W C && slP g W C 0 && slP g W C 1
theorem Zgm {l : List Int} {t : Int} (h : t ∈ l) : ∃ j, j < l.length ∧ l.getD j 0 = t := by
  obtain ⟨j, hj, e⟩ := List.getElem_of_mem h
  exact ⟨j, hj, by rw [List.getD_eq_getElem?_getD, List.getElem?_eq_getElem hj, Option.getD_some]; exact e⟩
theorem Zga {g : Gm} (hG : GOk g) {W C : List Int} {p : Int} (hc : ∀ v, v < g.own.length → W.getD v 0 = p → g.own.getD v 0 = p → C.getD v 0 ∈ g.nxt.getD v []) {v : Nat} (hv : v < g.own.length) (hw : W.getD v 0 = p) {t : Int} (ht : t ∈ nxF g C p v) :
    t ∈ g.nxt.getD v [] ∧ 0 ≤ t ∧ t < g.own.length := by
  have hm : t ∈ g.nxt.getD v [] := by
    unfold nxF at ht
    split at ht
    · rename_i h; rw [List.mem_singleton.1 ht]; exact hc v hv hw h
    · exact ht
  obtain ⟨j, hj, e⟩ := Zgm hm
  have := hG.at' v hv j hj
  rw [e] at this
  exact ⟨hm, this⟩
theorem fol_valid {g : Gm} (hV : Zhi g) {W C : List Int} {p : Int} (hc : ∀ v, v < g.own.length → W.getD v 0 = p → g.own.getD v 0 = p → C.getD v 0 ∈ g.nxt.getD v []) (hcl : cloB g W C p = true) : Zhi (folG g W C p) := by
  have hG := gok hV
  have hcl := of_decide_eq_true hcl
  have hl : (folG g W C p).n = (kp (selL g W p) g.own.length).length := List.length_map ..
  refine ⟨?_, ?_, ?_, fun i hi => ?_⟩
  · rw [hl]; exact Nat.le_trans Zib hG.n
  · rw [hl]; exact List.length_map ..
  · rw [hl]; exact List.length_map ..
  rw [hl] at hi
  obtain ⟨h1, h2⟩ := Zi4 hi
  have e1 : (folG g W C p).o i = g.own.getD ((kp (selL g W p) g.own.length).getD i 0) 0 := Ze3 hi
  have e2 : (folG g W C p).p i = g.pri.getD ((kp (selL g W p) g.own.length).getD i 0) 0 := Ze3 hi
  have e3 : (folG g W C p).x i = (nxF g C p ((kp (selL g W p) g.own.length).getD i 0)).map fun t => nmF (selL g W p) t.toNat := Ze3 hi
  have hn2 := hl
  generalize (kp (selL g W p) g.own.length).getD i 0 = v at *
  have hw := (Zd2 h1).1 h2
  have hsel : ∀ t, t ∈ nxF g C p v → (selL g W p).getD t.toNat false = true ∧ t.toNat < g.own.length := fun t ht => by
    have hb := Zga hG hc h1 hw ht
    have hlt : t.toNat < g.own.length := by omega
    exact ⟨(Zd2 hlt).2 (hcl v h1 hw t ht), hlt⟩
  have hlen : 1 ≤ (nxF g C p v).length ∧ (nxF g C p v).length ≤ 64 := by
    unfold nxF
    split
    · exact ⟨Nat.le_refl _, by show 1 ≤ 64; decide⟩
    · exact hG.len v h1
  obtain ⟨⟨a1, a2, a3, a4, _⟩, hrow⟩ := hV.2.2.2 v h1
  unfold Zi2
  rw [e1, e2, e3, List.length_map]
  refine ⟨⟨a1, a2, a3, a4, hlen⟩, fun j hj => ?_⟩
  have hat : ∀ j, j < (nxF g C p v).length → (nxF g C p v).getD j 0 ∈ nxF g C p v := fun j hj => by
    rw [List.getD_eq_getElem?_getD, List.getElem?_eq_getElem hj]; exact List.getElem_mem hj
  have hnum : ∀ j, j < (nxF g C p v).length → ((nxF g C p v).map fun t => nmF (selL g W p) t.toNat).getD j 0 = ((kp (selL g W p) ((nxF g C p v).getD j 0).toNat).length : Int) := fun j hj => by
    rw [map_getDI hj]
    unfold nmF
    rw [if_pos (hsel _ (hat j hj)).1]
  refine ⟨?_, ?_, fun h0 => ?_⟩
  · rw [hnum j hj]; omega
  · rw [hnum j hj, hn2]
    have := (Zhm (hsel _ (hat j hj)).1 (hsel _ (hat j hj)).2).1
    omega
  · rw [hnum j hj, hnum (j - 1) (by omega)]
    have hlt : ((nxF g C p v).getD (j - 1) 0).toNat < ((nxF g C p v).getD j 0).toNat := by
      have b1 := Zga hG hc h1 hw (hat j hj)
      have b2 := Zga hG hc h1 hw (hat (j - 1) (by omega))
      have : (nxF g C p v).getD (j - 1) 0 < (nxF g C p v).getD j 0 := by
        by_cases e : g.own.getD v 0 = p
        · have : (nxF g C p v).length = 1 := by unfold nxF; rw [if_pos e]; rfl
          omega
        · have e4 : nxF g C p v = g.nxt.getD v [] := by unfold nxF; rw [if_neg e]
          rw [e4] at hj ⊢
          exact (hrow j hj).2.2 h0
      omega
    have := (Zhm (hsel _ (hat (j - 1) (by omega))).1 hlt).1
    omega
theorem Zh8 {g : Gm} (hV : Zhi g) {W C : List Int} {p : Int} (hp : p = 0 ∨ p = 1) (hc : ∀ v, v < g.own.length → W.getD v 0 = p → g.own.getD v 0 = p → C.getD v 0 ∈ g.nxt.getD v []) :
    slP g W C p = true ↔ Sol (fun v => g.own.getD v 0) (fun v => g.pri.getD v 0) (rws g.nxt) (fun v => v < g.own.length) (fun v => W.getD v 0) (fun v => (C.getD v 0).toNat) p := by
  have hG := gok hV
  have hn : (folG g W C p).own.length = (kp (selL g W p) g.own.length).length := List.length_map ..
  have hpr : ∀ i, i < (kp (selL g W p) g.own.length).length → (folG g W C p).pri.getD i 0 = g.pri.getD ((kp (selL g W p) g.own.length).getD i 0) 0 := fun i hi => Ze3 hi
  have hrw : ∀ i, i < (kp (selL g W p) g.own.length).length → rws (folG g W C p).nxt i = (nxF g C p ((kp (selL g W p) g.own.length).getD i 0)).map fun t => (nmF (selL g W p) t.toNat).toNat := fun i hi => by
    have : (folG g W C p).nxt.getD i [] = (nxF g C p ((kp (selL g W p) g.own.length).getD i 0)).map fun t => nmF (selL g W p) t.toNat := Ze3 hi
    unfold rws
    rw [this, List.map_map]; rfl
  have hnx : ∀ v t, t ∈ nxF g C p v → (g.own.getD v 0 = p → t.toNat = (C.getD v 0).toNat) ∧ (g.own.getD v 0 ≠ p → t.toNat ∈ rws g.nxt v) := fun v t ht => by
    unfold nxF at ht
    split at ht
    · rename_i h; rw [List.mem_singleton.1 ht]; exact ⟨fun _ => rfl, fun h2 => absurd h h2⟩
    · rename_i h; exact ⟨fun h2 => absurd h2 h, fun _ => List.mem_map.2 ⟨t, ht, rfl⟩⟩
  have hxn : ∀ v t, ((g.own.getD v 0 = p → t = (C.getD v 0).toNat) ∧ (g.own.getD v 0 ≠ p → t ∈ rws g.nxt v)) → ∃ s, s ∈ nxF g C p v ∧ s.toNat = t := fun v t h => by
    unfold nxF
    split
    · rename_i e; exact ⟨_, List.mem_singleton.2 rfl, (h.1 e).symm⟩
    · rename_i e; obtain ⟨s, h1, h2⟩ := List.mem_map.1 (h.2 e); exact ⟨s, h1, h2⟩
  have hany : (!(Zdg (folG g W C p) (1 - p)).any id) = true ↔ ∀ i, i < (kp (selL g W p) g.own.length).length → ¬ Zij (folG g W C p) (1 - p) i := by
    rw [Bool.not_eq_true', List.any_eq_false]
    constructor
    · intro h i hi ha
      have h1 := (Zeu (g := folG g W C p) (by rw [hn]; exact hi)).2 ha
      have hlt : i < (Zdg (folG g W C p) (1 - p)).length := by simp [Zdg, hn, hi]
      rw [List.getD_eq_getElem?_getD, List.getElem?_eq_getElem hlt, Option.getD_some] at h1
      exact h _ (List.getElem_mem hlt) (by rw [h1]; rfl)
    · intro h b hb hb2
      obtain ⟨i, hi, e⟩ := List.getElem_of_mem hb
      have hi2 : i < (kp (selL g W p) g.own.length).length := by simpa [Zdg, hn] using hi
      refine h i hi2 ((Zeu (g := folG g W C p) (by rw [hn]; exact hi2)).1 ?_)
      rw [List.getD_eq_getElem?_getD, List.getElem?_eq_getElem hi, Option.getD_some, e]
      exact hb2
  unfold slP
  rw [Bool.and_eq_true, hany]
  constructor
  · rintro ⟨hcl, hno⟩
    have hcl := of_decide_eq_true hcl
    have hidx : ∀ v, v < g.own.length → W.getD v 0 = p → (kp (selL g W p) v).length < (kp (selL g W p) g.own.length).length ∧ (kp (selL g W p) g.own.length).getD (kp (selL g W p) v).length 0 = v := fun v hv hw => Zhm ((Zd2 hv).2 hw) hv
    refine ⟨fun v hv hw ho => ?_, fun v hv hw ho t ht hk => ?_, fun w hk hw hpw hcy => ?_⟩
    · have h1 := hc v hv hw ho
      have hm : C.getD v 0 ∈ nxF g C p v := by unfold nxF; rw [if_pos ho]; exact List.mem_singleton.2 rfl
      have hb := Zga hG hc hv hw hm
      exact ⟨List.mem_map.2 ⟨_, h1, rfl⟩, by omega, hcl v hv hw _ hm⟩
    · obtain ⟨s, h1, h2⟩ := hxn v t ⟨fun h => absurd h ho, fun _ => ht⟩
      rw [← h2]; exact hcl v hv hw s h1
    · obtain ⟨t, ht, htw⟩ := hcy
      have hE : ∀ a b, True → Low (Stp (fun v => g.own.getD v 0) (rws g.nxt) (fun v => v < g.own.length) (fun v => W.getD v 0) (fun v => (C.getD v 0).toNat) p) (fun v => g.pri.getD v 0) w a b → Ed (rws (folG g W C p).nxt) (okP (folG g W C p).pri (g.pri.getD w 0)) (kp (selL g W p) a).length (kp (selL g W p) b).length ∧ True := fun a b _ hab => by
        obtain ⟨⟨⟨h1, h1w⟩, h2, h3, h4⟩, h5⟩ := hab
        obtain ⟨s, hs1, hs2⟩ := hxn a b ⟨h3, h4⟩
        obtain ⟨i1, i2⟩ := hidx a h1 h1w
        have hbw : W.getD b 0 = p := by rw [← hs2]; exact hcl a h1 h1w s hs1
        obtain ⟨j1, j2⟩ := hidx b h2 hbw
        refine ⟨⟨?_, ?_⟩, trivial⟩
        · rw [hrw _ i1, i2]
          refine List.mem_map.2 ⟨s, hs1, ?_⟩
          rw [hs2]
          unfold nmF
          rw [if_pos ((Zd2 h2).2 hbw)]; rfl
        · show (folG g W C p).pri.getD _ 0 ≤ _
          rw [hpr _ j1, j2]; exact h5
      obtain ⟨i1, i2⟩ := hidx w hk hw
      refine hno _ i1 ⟨_, by rw [hn]; exact i1, ⟨?_, (kp (selL g W p) t).length, ?_, ?_⟩, .refl _⟩
      · rw [hpr _ i1, i2]
        have := mod2 (g.pri.getD w 0)
        have hpw : ¬ g.pri.getD w 0 % 2 = p := hpw
        omega
      · rw [hpr _ i1, i2]; exact (hE w t trivial ht).1
      · rw [hpr _ i1, i2]; exact (Rch.mapD (D := fun _ => True) hE htw trivial).1
  · intro hS
    have hcl : ∀ v, v < g.own.length → W.getD v 0 = p → ∀ t, t ∈ nxF g C p v → W.getD t.toNat 0 = p := fun v hv hw t ht => by
      have hb := Zga hG hc hv hw ht
      have := hnx v t ht
      by_cases e : g.own.getD v 0 = p
      · rw [this.1 e]; exact (hS.mine v hv hw e).2.2
      · exact hS.his v hv hw e t.toNat (this.2 e) (by omega)
    refine ⟨decide_eq_true hcl, fun i hi => ?_⟩
    rintro ⟨w, hwn, ⟨h1, t, ht, htw⟩, h2⟩
    rw [hn] at hwn
    have hE : ∀ a b, a < (kp (selL g W p) g.own.length).length → Ed (rws (folG g W C p).nxt) (okP (folG g W C p).pri ((folG g W C p).pri.getD w 0)) a b → Low (Stp (fun v => g.own.getD v 0) (rws g.nxt) (fun v => v < g.own.length) (fun v => W.getD v 0) (fun v => (C.getD v 0).toNat) p) (fun v => g.pri.getD v 0) ((kp (selL g W p) g.own.length).getD w 0) ((kp (selL g W p) g.own.length).getD a 0) ((kp (selL g W p) g.own.length).getD b 0) ∧ b < (kp (selL g W p) g.own.length).length := fun a b ha hab => by
      obtain ⟨h3, h4⟩ := hab
      rw [hrw a ha] at h3
      obtain ⟨s, hs1, hs2⟩ := List.mem_map.1 h3
      obtain ⟨k1, k2⟩ := Zi4 ha
      have kw := (Zd2 k1).1 k2
      have hb := Zga hG hc k1 kw hs1
      have hsn : s.toNat < g.own.length := by omega
      have hsw := hcl _ k1 kw s hs1
      have hsk := (Zd2 (g := g) (W := W) (p := p) hsn).2 hsw
      have hbi : b = (kp (selL g W p) s.toNat).length := by
        rw [← hs2]; unfold nmF; rw [if_pos hsk]; rfl
      obtain ⟨j1, j2⟩ := Zhm hsk hsn
      rw [← hbi] at j1 j2
      have h4 : (folG g W C p).pri.getD b 0 ≤ (folG g W C p).pri.getD w 0 := h4
      rw [hpr _ j1, hpr _ hwn] at h4
      refine ⟨⟨⟨⟨k1, kw⟩, ?_, ?_, ?_⟩, h4⟩, j1⟩
      · rw [j2]; exact hsn
      · rw [j2]; exact (hnx _ s hs1).1
      · rw [j2]; exact (hnx _ s hs1).2
    obtain ⟨k1, k2⟩ := Zi4 hwn
    have kw := (Zd2 k1).1 k2
    have ht2 := hE w t hwn ht
    refine hS.cyc _ k1 kw (fun h3 => ?_) ⟨_, ht2.1, (Rch.mapD (D := fun a => a < (kp (selL g W p) g.own.length).length) hE htw ht2.2).1⟩
    have h1 : (folG g W C p).pri.getD w 0 % 2 = 1 - p := h1
    rw [hpr _ hwn] at h1
    have h3 : g.pri.getD ((kp (selL g W p) g.own.length).getD w 0) 0 % 2 = p := h3
    omega
theorem Zgh {g : Gm} {W C : List Int} {p : Int} (h : Zb0 g W C = true) : ∀ v, v < g.own.length → W.getD v 0 = p → g.own.getD v 0 = p → C.getD v 0 ∈ g.nxt.getD v [] := fun v hv hw ho => ((of_decide_eq_true h).2.2 v hv).2.1 (ho.trans hw.symm)
theorem solB_iff {g : Gm} (hV : Zhi g) {W C : List Int} : solB g W C = true ↔ Zb0 g W C = true ∧ ∀ p, p = 0 ∨ p = 1 → Sol (fun v => g.own.getD v 0) (fun v => g.pri.getD v 0) (rws g.nxt) (fun v => v < g.own.length) (fun v => W.getD v 0) (fun v => (C.getD v 0).toNat) p := by
  unfold solB
  rw [Bool.and_eq_true, Bool.and_eq_true]
  constructor
  · rintro ⟨⟨h1, h2⟩, h3⟩
    refine ⟨h1, fun p hp => ?_⟩
    rcases hp with rfl | rfl
    · exact (Zh8 hV (.inl rfl) (Zgh h1)).1 h2
    · exact (Zh8 hV (.inr rfl) (Zgh h1)).1 h3
  · rintro ⟨h1, h2⟩
    exact ⟨⟨h1, (Zh8 hV (.inl rfl) (Zgh h1)).2 (h2 0 (.inl rfl))⟩, (Zh8 hV (.inr rfl) (Zgh h1)).2 (h2 1 (.inr rfl))⟩
end
end Go.Proofs.YtdhoadhkkecjjaaDoor.Cal
