/- Own texts of the proof, merged, in order. -/
import Derived.Test.YtlckljphakkomaaS14
set_option linter.unusedVariables false
set_option linter.unusedSimpArgs false
namespace Go.Proofs.Ytlckljphakkomaa.Cal
open Go Pl
def bF (l : List Bool) (v : Nat) : Bool := l.getD v false
/-- What 'inside' answers. -/
noncomputable def insL (g : Gm) (keep : List Bool) (q : Int) (to : List Bool) : List Bool := (List.range g.own.length).map (attB (fun v => g.own.getD v 0) (rws g.nxt) (bF keep) (bF to) q)
noncomputable def insS : Spec
  | [.agg (.cons (.roI o) (.cons (.roI p) (.cons (.roII x) .nil))), .roB keep, .int .i64 q, .roB to] => some ⟨validB ⟨o, p, x⟩ = true ∧ keep.length = o.length ∧ to.length = o.length, .roB (insL ⟨o, p, x⟩ keep q to), none⟩
  | _ => none
/-- Whether one of the first j successors in the part is in l, and whether all are. -/
def smB (keep l : List Bool) (row : List Int) (j : Nat) : Bool := (row.take j).any fun t => keep.getD t.toNat false && l.getD t.toNat false
def alB (keep l : List Bool) (row : List Int) (j : Nat) : Bool := (row.take j).all fun t => !keep.getD t.toNat false || l.getD t.toNat false
theorem smB_next {keep l : List Bool} {row : List Int} {j : Nat} (h : j < row.length) : smB keep l row (j + 1) = (smB keep l row j || keep.getD (row.getD j 0).toNat false && l.getD (row.getD j 0).toNat false) := by
  unfold smB
  rw [take1 (d := 0) h, List.any_append]; simp
theorem alB_next {keep l : List Bool} {row : List Int} {j : Nat} (h : j < row.length) : alB keep l row (j + 1) = (alB keep l row j && (!keep.getD (row.getD j 0).toNat false || l.getD (row.getD j 0).toNat false)) := by
  unfold alB
  rw [take1 (d := 0) h, List.all_append]; simp
/-- Whether position v is taken in. -/
def tkB (g : Gm) (keep : List Bool) (q : Int) (l : List Bool) (v : Nat) : Bool := decide (g.own.getD v 0 = q) && smB keep l (g.nxt.getD v []) (g.nxt.getD v []).length || !decide (g.own.getD v 0 = q) && alB keep l (g.nxt.getD v []) (g.nxt.getD v []).length
theorem smB_iff {g : Gm} {keep l : List Bool} {v : Nat} : smB keep l (g.nxt.getD v []) (g.nxt.getD v []).length = true ↔ ∃ t, t ∈ rws g.nxt v ∧ keep.getD t false = true ∧ l.getD t false = true := by
  unfold smB rws
  rw [List.take_length, List.any_eq_true]
  constructor
  · rintro ⟨t, h1, h2⟩
    rw [Bool.and_eq_true] at h2
    exact ⟨t.toNat, List.mem_map.2 ⟨t, h1, rfl⟩, h2.1, h2.2⟩
  · rintro ⟨t, h1, h2, h3⟩
    obtain ⟨s, h4, rfl⟩ := List.mem_map.1 h1
    exact ⟨s, h4, by rw [h2, h3]; rfl⟩
theorem alB_iff {g : Gm} {keep l : List Bool} {v : Nat} : alB keep l (g.nxt.getD v []) (g.nxt.getD v []).length = true ↔ ∀ t, t ∈ rws g.nxt v → keep.getD t false = true → l.getD t false = true := by
  unfold alB rws
  rw [List.take_length, List.all_eq_true]
  constructor
  · intro h t h1 h2
    obtain ⟨s, h4, rfl⟩ := List.mem_map.1 h1
    have := h s h4
    rw [h2] at this; simpa using this
  · intro h t h1
    cases h2 : keep.getD t.toNat false with
    | false => rfl
    | true => rw [h t.toNat (List.mem_map.2 ⟨t, h1, rfl⟩) h2]; rfl
/-- What is taken in is attracted. -/
theorem tk_att {g : Gm} {keep to l : List Bool} {q : Int} {v : Nat} (hk : keep.getD v false = true) (hl : ∀ t, l.getD t false = true → attB (fun v => g.own.getD v 0) (rws g.nxt) (bF keep) (bF to) q t = true) (h : tkB g keep q l v = true) : attB (fun v => g.own.getD v 0) (rws g.nxt) (bF keep) (bF to) q v = true := by
  unfold tkB at h
  rw [Bool.or_eq_true, Bool.and_eq_true, Bool.and_eq_true, decide_eq_true_eq, Bool.not_eq_true', decide_eq_false_iff_not] at h
  obtain ⟨c, r, hA⟩ := att_atr (own := fun v => g.own.getD v 0) (sx := rws g.nxt) (K := fun v => bF keep v = true) (T := fun v => bF to v = true ∧ bF keep v = true) (q := q) fun v hv => hv.2
  rw [attB_iff]
  have hl' := fun t ht => attB_iff.1 (hl t ht)
  rcases h with ⟨h1, h2⟩ | ⟨h1, h2⟩
  · obtain ⟨t, h3, h4, h5⟩ := smB_iff.1 h2
    obtain ⟨k, h6⟩ := hl' t h5
    exact ⟨k + 1, .inr (.inl ⟨hk, h1, t, h3, h4, h6⟩)⟩
  · obtain ⟨k, h6⟩ := lay_all (own := fun v => g.own.getD v 0) (sx := rws g.nxt) (K := fun v => bF keep v = true) (T := fun v => bF to v = true) (q := q) (v := v) (l := rws g.nxt v) fun t ht hkt => hl' t (alB_iff.1 h2 t ht hkt)
    exact ⟨k + 1, .inr (.inr ⟨hk, h1, h6⟩)⟩
/-- Where nothing more is taken in, all that is attracted is there. -/
theorem ins_eq {g : Gm} {keep to l : List Bool} {q : Int} (hll : l.length = g.own.length) (hkl : keep.length = g.own.length) (hto : ∀ v, to.getD v false = true → l.getD v false = true) (hl : ∀ t, l.getD t false = true → attB (fun v => g.own.getD v 0) (rws g.nxt) (bF keep) (bF to) q t = true)
    (hc : ∀ v, v < g.own.length → keep.getD v false = true → l.getD v false = false → tkB g keep q l v = false) : l = insL g keep q to := by
  have hkn : ∀ v, bF keep v = true → v < g.own.length := fun v hv => by
    refine Nat.lt_of_not_le fun h => ?_
    unfold bF at hv
    rw [List.getD_eq_getElem?_getD, List.getElem?_eq_none (by omega)] at hv
    cases hv
  have hatt : ∀ v, Att (fun v => g.own.getD v 0) (rws g.nxt) (fun v => bF keep v = true) (fun v => bF to v = true) q v → l.getD v false = true := fun v hv => by
    refine att_least (X := fun v => l.getD v false = true) (fun v h => hto v h) (fun v t h1 h2 h3 h4 h5 => ?_) (fun v h1 h2 h3 => ?_) hv
    · refine Classical.byContradiction fun hn => ?_
      have h : l.getD v false = false := by simpa using hn
      have h6 := hc v (hkn v h1) h1 h
      have h7 := smB_iff.2 ⟨t, h3, h4, h5⟩
      have h2 : g.own.getD v 0 = q := h2
      unfold tkB at h6
      rw [h7, decide_eq_true h2] at h6
      cases h6
    · refine Classical.byContradiction fun hn => ?_
      have h : l.getD v false = false := by simpa using hn
      have h6 := hc v (hkn v h1) h1 h
      have h7 := alB_iff.2 h3
      have h2 : ¬ g.own.getD v 0 = q := h2
      unfold tkB at h6
      rw [h7, decide_eq_false h2] at h6
      cases h6
  refine List.ext_getElem (by simp [insL, hll]) fun v h1 h2 => ?_
  have e1 : l[v] = l.getD v false := by rw [List.getD_eq_getElem?_getD, List.getElem?_eq_getElem h1]; rfl
  have e2 : (insL g keep q to)[v] = attB (fun v => g.own.getD v 0) (rws g.nxt) (bF keep) (bF to) q v := by simp [insL]
  rw [e1, e2, Bool.eq_iff_iff]
  exact ⟨hl v, fun h => hatt v (attB_iff.1 h)⟩
/-- What holds while positions are taken in: l those that are. -/
structure IsI (g : Gm) (keep to : List Bool) (q : Int) (l : List Bool) : Prop where
  len : l.length = g.own.length
  sub : ∀ v, to.getD v false = true → l.getD v false = true
  att : ∀ t, l.getD t false = true → attB (fun v => g.own.getD v 0) (rws g.nxt) (bF keep) (bF to) q t = true
structure IsS where
  l : List Bool
  more : Bool
structure IsJ where
  l : List Bool
  more : Bool
  i : Nat
def b01 (b : Bool) : Nat := if b then 1 else 0
theorem IsI_set {g : Gm} {keep to l : List Bool} {q : Int} {v : Nat} (h : IsI g keep to q l) (hv : v < g.own.length) (hk : keep.getD v false = true) (ht : tkB g keep q l v = true) : IsI g keep to q (l.set v true) := by
  have hg : ∀ u, (l.set v true).getD u false = if u = v then true else l.getD u false := fun u => getD_set (by rw [h.len]; exact hv)
  refine ⟨by rw [List.length_set]; exact h.len, fun u hu => ?_, fun u hu => ?_⟩
  · rw [hg]; split
    · rfl
    · exact h.sub u hu
  · rw [hg] at hu
    by_cases e : u = v
    · subst e; exact tk_att hk h.att ht
    · rw [if_neg e] at hu; exact h.att u hu
set_option maxRecDepth 4000 in
set_option maxHeartbeats 4000000 in
theorem inside_ok : FSpec Try.prog 40 insS := by
  refine fspec_of htb (fn := Try.f40) (by kernel_rfl) (by kernel_rfl) rfl (fun args r hS => ?_) (fun args r hS hob hl => ?_)
  · unfold insS at hS; split at hS <;> first | (cases hS; done) | (cases hS; exact Nat.le_of_ble_eq_true rfl)
  unfold insS at hS
  split at hS
  case h_2 => cases hS
  rename_i o p x keep q to
  simp only [Option.some.injEq] at hS
  subst hS
  simp only [lenP, mkL, lim] at hl
  dsimp only at hob
  obtain ⟨hv, hkl, htl⟩ := hob
  have hV := validB_iff.1 hv
  obtain ⟨hn, hpl, hxl, hpos⟩ := id hV
  simp only [Gm.n] at hn hpl hxl
  have hrl : ∀ v, v < o.length → (x.getD v []).length ≤ 64 := fun v h => by
    obtain ⟨⟨a1, a2, a3, a4, _, a6⟩, _⟩ := hpos v (by simp only [Gm.n]; omega)
    exact a6
  have hrb : ∀ v, v < o.length → ∀ j, j < (x.getD v []).length → 0 ≤ (x.getD v []).getD j 0 ∧ (x.getD v []).getD j 0 < o.length := fun v h j hj => by
    obtain ⟨_, hr⟩ := hpos v (by simp only [Gm.n]; omega)
    exact ⟨(hr j hj).1, (hr j hj).2.1⟩
  repeat' first
    | with_reducible first | refine awp_seq ?_ | refine awp_block ?_ | refine next_then ?_ | refine next_block ?_ | refine exit_then ?_ | refine ret_then ?_ | refine ret_block ?_ | refine exit_here ?_ | refine awp_exit ?_ | refine awp_ret ?_ | refine awp_skip ?_ | refine awp_label ?_ | refine next_noGoto ?_ | refine ret_noGoto ?_ | refine exit_noGoto ?_ | refine awp_scope ?_
    | ((with_reducible refine exit_past ?_ ?_); exact rfl)
    | ((with_reducible refine isCond ?_); refine awp_condO rfl ?_ ?_ <;> intro hb <;> (try simp only [zH] at hb))
    | ((with_reducible refine isRegS 1 ?_ ?_); (· exact rfl); (first | refine awp_textM htb hmz noSp (fun _ => false) rfl rfl ?_ | refine awp_drawM hmo htb hmz noSp (fun _ => false) rfl rfl (by kernel_rfl) ?_); intro m' e' l' ob h; simp only [zE0, zE1, zE2, zE3, zE4, zE5, evp, evx, ev1, evLoad, evStore, evBin, isBoolK, forall_const, z38, tb, Nat.reduceAdd, Nat.reduceSub, Nat.reduceMul, Nat.reduceEqDiff, Nat.reduceLeDiff, Nat.reduceLT, Nat.reduceBEq, Nat.reduceBNe, ↓reduceIte, reduceIte] at h; obtain ⟨rfl, rfl, rfl, rfl⟩ := h; refine ⟨?_, ?_⟩)
    | ((with_reducible refine Ob.mk ?_); first | exact trivial | (intros; omega) | ((repeat' first | apply And.intro | (intro hg; have hg' := hg; try simp only [zH] at hg')) <;> first | assumption | omega | (simp only [zH]; omega)))
  (refine awp_textM htb hmz noSp (fun i => Nat.beq i 0) rfl rfl ?_; intro m' e' l' ob h; simp only [zE0, zE1, zE2, zE3, zE4, zE5, evp, evx, ev1, evLoad, evStore, evBin, isBoolK, forall_const, z38, tb, Nat.reduceAdd, Nat.reduceSub, Nat.reduceMul, Nat.reduceEqDiff, Nat.reduceLeDiff, Nat.reduceLT, Nat.reduceBEq, Nat.reduceBNe, ↓reduceIte, reduceIte] at h; obtain ⟨rfl, rfl, rfl, rfl⟩ := h; refine ⟨?_, ?_⟩)
  · first | ((with_reducible refine Ob.mk ?_); first | exact trivial | (intros; omega) | ((repeat' first | apply And.intro | (intro hg; have hg' := hg; try simp only [zH] at hg')) <;> first | assumption | omega | (simp only [zH]; omega))) | skip
  repeat' first
    | with_reducible first | refine awp_seq ?_ | refine awp_block ?_ | refine next_then ?_ | refine next_block ?_ | refine exit_then ?_ | refine ret_then ?_ | refine ret_block ?_ | refine exit_here ?_ | refine awp_exit ?_ | refine awp_ret ?_ | refine awp_skip ?_ | refine awp_label ?_ | refine next_noGoto ?_ | refine ret_noGoto ?_ | refine exit_noGoto ?_ | refine awp_scope ?_
    | ((with_reducible refine exit_past ?_ ?_); exact rfl)
    | ((with_reducible refine isCond ?_); refine awp_condO rfl ?_ ?_ <;> intro hb <;> (try simp only [zH] at hb))
    | ((with_reducible refine isReg ?_); (first | refine awp_textM htb hmz noSp (fun _ => false) rfl rfl ?_ | refine awp_drawM hmo htb hmz noSp (fun _ => false) rfl rfl (by kernel_rfl) ?_); intro m' e' l' ob h; simp only [zE0, zE1, zE2, zE3, zE4, zE5, evp, evx, ev1, evLoad, evStore, evBin, isBoolK, forall_const, z38, tb, Nat.reduceAdd, Nat.reduceSub, Nat.reduceMul, Nat.reduceEqDiff, Nat.reduceLeDiff, Nat.reduceLT, Nat.reduceBEq, Nat.reduceBNe, ↓reduceIte, reduceIte] at h; obtain ⟨rfl, rfl, rfl, rfl⟩ := h; refine ⟨?_, ?_⟩)
    | ((with_reducible refine Ob.mk ?_); first | exact trivial | (intros; omega) | ((repeat' first | apply And.intro | (intro hg; have hg' := hg; try simp only [zH] at hg')) <;> first | assumption | omega | (simp only [zH]; omega)))
  refine awp_loopC (τ := IsS) (fun s => IsI ⟨o, p, x⟩ keep to q s.l ∧ (s.more = false → ∀ v, v < o.length → keep.getD v false = true → s.l.getD v false = false → tkB ⟨o, p, x⟩ keep q s.l v = false)) (fun s => ⟨7, [(10, .bool s.more), (9, .own 4), (4, (.rop (.agg (.cons (.roI o) (.cons (.roI p) (.cons (.roII x) .nil)))))), (1, .roB keep), (2, .int .i64 q)], [(4, some (.bools s.l))], []⟩) (fun s => s.l.count false + b01 s.more) ⟨to, true⟩ [] ?_ ⟨⟨htl, fun v h => h, fun t ht => attB_iff.2 ⟨0, ht⟩⟩, fun h => by cases h⟩ ?_
  · (refine ⟨rfl, ?_, ?_⟩ <;> simp only [zE0, zE1, zE2, zE3, zE4, zE5, evp, evx, ev1, evLoad, evStore, evBin, isBoolK, forall_const, z38, tb, Nat.reduceAdd, Nat.reduceSub, Nat.reduceMul, Nat.reduceEqDiff, Nat.reduceLeDiff, Nat.reduceLT, Nat.reduceBEq, Nat.reduceBNe, ↓reduceIte, reduceIte, zI])
  rintro ⟨l, more⟩ ⟨hI, hm⟩
  have hll := hI.len
  simp only [Gm.n] at hll hI hm
  dsimp only at hll hI hm ⊢
  repeat' first
    | with_reducible first | refine awp_seq ?_ | refine awp_block ?_ | refine next_then ?_ | refine next_block ?_ | refine exit_then ?_ | refine ret_then ?_ | refine ret_block ?_ | refine exit_here ?_ | refine awp_exit ?_ | refine awp_ret ?_ | refine awp_skip ?_ | refine awp_label ?_ | refine next_noGoto ?_ | refine ret_noGoto ?_ | refine exit_noGoto ?_ | refine awp_scope ?_
    | ((with_reducible refine exit_past ?_ ?_); exact rfl)
    | ((with_reducible refine isCond ?_); refine awp_condO rfl ?_ ?_ <;> intro hb <;> (try simp only [zH] at hb))
    | ((with_reducible refine isRegS 20 ?_ ?_); (· exact rfl); (first | refine awp_textM htb hmz noSp (fun _ => false) rfl rfl ?_ | refine awp_drawM hmo htb hmz noSp (fun _ => false) rfl rfl (by kernel_rfl) ?_); intro m' e' l' ob h; simp only [zE0, zE1, zE2, zE3, zE4, zE5, evp, evx, ev1, evLoad, evStore, evBin, isBoolK, forall_const, z38, tb, Nat.reduceAdd, Nat.reduceSub, Nat.reduceMul, Nat.reduceEqDiff, Nat.reduceLeDiff, Nat.reduceLT, Nat.reduceBEq, Nat.reduceBNe, ↓reduceIte, reduceIte] at h; obtain ⟨rfl, rfl, rfl, rfl⟩ := h; refine ⟨?_, ?_⟩)
    | ((with_reducible refine Ob.mk ?_); first | exact trivial | (intros; omega) | ((repeat' first | apply And.intro | (intro hg; have hg' := hg; try simp only [zH] at hg')) <;> first | assumption | omega | (simp only [zH]; omega)))
  · have hmt : more = true := hb
    refine awp_loopC (τ := IsJ) (fun t => t.i ≤ o.length ∧ IsI ⟨o, p, x⟩ keep to q t.l ∧ (t.more = false → t.l = l ∧ ∀ v, v < t.i → keep.getD v false = true → t.l.getD v false = false → tkB ⟨o, p, x⟩ keep q t.l v = false) ∧ (t.more = true → t.l.count false < l.count false)) (fun t => ⟨12, [(23, .int .i64 t.i), (22, .int .i64 keep.length), (21, .roB keep), (10, .bool t.more), (9, .own 4), (4, (.rop (.agg (.cons (.roI o) (.cons (.roI p) (.cons (.roII x) .nil)))))), (1, .roB keep), (2, .int .i64 q)], [(4, some (.bools t.l))], []⟩) (fun t => o.length - t.i) ⟨l, false, 0⟩ [] ?_ ⟨Nat.zero_le _, hI, fun _ => ⟨rfl, fun v hv => absurd hv (Nat.not_lt_zero v)⟩, fun h => by cases h⟩ ?_
    · (refine ⟨rfl, ?_, ?_⟩ <;> simp only [zE0, zE1, zE2, zE3, zE4, zE5, evp, evx, ev1, evLoad, evStore, evBin, isBoolK, forall_const, z38, tb, Nat.reduceAdd, Nat.reduceSub, Nat.reduceMul, Nat.reduceEqDiff, Nat.reduceLeDiff, Nat.reduceLT, Nat.reduceBEq, Nat.reduceBNe, ↓reduceIte, reduceIte, zI])
    rintro ⟨l2, more2, i⟩ ⟨hi, hI2, hn2, hm2⟩
    have hll2 := hI2.len
    simp only [Gm.n] at hll2 hI2 hn2
    dsimp only at hll2 hI2 hn2 hm2 hi ⊢
    repeat' first
      | with_reducible first | refine awp_seq ?_ | refine awp_block ?_ | refine next_then ?_ | refine next_block ?_ | refine exit_then ?_ | refine ret_then ?_ | refine ret_block ?_ | refine exit_here ?_ | refine awp_exit ?_ | refine awp_ret ?_ | refine awp_skip ?_ | refine awp_label ?_ | refine next_noGoto ?_ | refine ret_noGoto ?_ | refine exit_noGoto ?_ | refine awp_scope ?_
      | ((with_reducible refine exit_past ?_ ?_); exact rfl)
      | ((with_reducible refine isCond ?_); refine awp_condO rfl ?_ ?_ <;> intro hb <;> (try simp only [zH] at hb))
      | ((with_reducible refine isRegS 9 ?_ ?_); (· exact rfl); (first | refine awp_textM htb hmz noSp (fun _ => false) rfl rfl ?_ | refine awp_drawM hmo htb hmz noSp (fun _ => false) rfl rfl (by kernel_rfl) ?_); intro m' e' l' ob h; simp only [zE0, zE1, zE2, zE3, zE4, zE5, evp, evx, ev1, evLoad, evStore, evBin, isBoolK, forall_const, z38, tb, Nat.reduceAdd, Nat.reduceSub, Nat.reduceMul, Nat.reduceEqDiff, Nat.reduceLeDiff, Nat.reduceLT, Nat.reduceBEq, Nat.reduceBNe, ↓reduceIte, reduceIte] at h; obtain ⟨rfl, rfl, rfl, rfl⟩ := h; refine ⟨?_, ?_⟩)
      | ((with_reducible refine Ob.mk ?_); first | exact trivial | (intros; omega) | ((repeat' first | apply And.intro | (intro hg; have hg' := hg; try simp only [zH] at hg')) <;> first | assumption | omega | (simp only [zH]; omega)))
    · refine back ⟨l2, more2, i + 1⟩ [] ?_ ⟨by dsimp only; omega, hI2, fun h => ⟨(hn2 h).1, fun v hv hk hl => ?_⟩, hm2⟩ (by dsimp only; omega)
      · (refine ⟨rfl, ?_, ?_⟩ <;> simp only [zE0, zE1, zE2, zE3, zE4, zE5, evp, evx, ev1, evLoad, evStore, evBin, isBoolK, forall_const, z38, tb, Nat.reduceAdd, Nat.reduceSub, Nat.reduceMul, Nat.reduceEqDiff, Nat.reduceLeDiff, Nat.reduceLT, Nat.reduceBEq, Nat.reduceBNe, ↓reduceIte, reduceIte, zI])
      · rcases Nat.lt_succ_iff_lt_or_eq.1 hv with h1 | rfl
        · exact (hn2 h).2 v h1 hk hl
        · rcases hb with h1 | h1
          · rw [h1] at hk; cases hk
          · rw [h1] at hl; cases hl
    · obtain ⟨hbk, hbl⟩ := hb
      have hio : i < o.length := by omega
      have hrl1 := hrl i hio
      have hrb1 := hrb i hio
      have hsm : ∀ j, j < (x.getD i []).length → smB keep l2 (x.getD i []) (j + 1) = (smB keep l2 (x.getD i []) j || keep.getD ((x.getD i []).getD j 0).toNat false && l2.getD ((x.getD i []).getD j 0).toNat false) := fun j hj => smB_next hj
      have hal : ∀ j, j < (x.getD i []).length → alB keep l2 (x.getD i []) (j + 1) = (alB keep l2 (x.getD i []) j && (!keep.getD ((x.getD i []).getD j 0).toNat false || l2.getD ((x.getD i []).getD j 0).toNat false)) := fun j hj => alB_next hj
      have hs0 : smB keep l2 (x.getD i []) 0 = false := rfl
      have ha0 : alB keep l2 (x.getD i []) 0 = true := rfl
      have htk : tkB ⟨o, p, x⟩ keep q l2 i = (decide (o.getD i 0 = q) && smB keep l2 (x.getD i []) (x.getD i []).length || !decide (o.getD i 0 = q) && alB keep l2 (x.getD i []) (x.getD i []).length) := rfl
      repeat' first
        | with_reducible first | refine awp_seq ?_ | refine awp_block ?_ | refine next_then ?_ | refine next_block ?_ | refine exit_then ?_ | refine ret_then ?_ | refine ret_block ?_ | refine exit_here ?_ | refine awp_exit ?_ | refine awp_ret ?_ | refine awp_skip ?_ | refine awp_label ?_ | refine next_noGoto ?_ | refine ret_noGoto ?_ | refine exit_noGoto ?_ | refine awp_scope ?_
        | ((with_reducible refine exit_past ?_ ?_); exact rfl)
        | ((with_reducible refine isCond ?_); refine awp_condO rfl ?_ ?_ <;> intro hb <;> (try simp only [zH] at hb))
        | ((with_reducible refine isReg ?_); (first | refine awp_textM htb hmz noSp (fun _ => false) rfl rfl ?_ | refine awp_drawM hmo htb hmz noSp (fun _ => false) rfl rfl (by kernel_rfl) ?_); intro m' e' l' ob h; simp only [zE0, zE1, zE2, zE3, zE4, zE5, evp, evx, ev1, evLoad, evStore, evBin, isBoolK, forall_const, z38, tb, Nat.reduceAdd, Nat.reduceSub, Nat.reduceMul, Nat.reduceEqDiff, Nat.reduceLeDiff, Nat.reduceLT, Nat.reduceBEq, Nat.reduceBNe, ↓reduceIte, reduceIte] at h; obtain ⟨rfl, rfl, rfl, rfl⟩ := h; refine ⟨?_, ?_⟩)
        | ((with_reducible refine Ob.mk ?_); first | exact trivial | (intros; omega) | ((repeat' first | apply And.intro | (intro hg; have hg' := hg; try simp only [zH] at hg')) <;> first | assumption | omega | (simp only [zH]; omega)))
      generalize smB keep l2 (x.getD i []) = sm at *
      generalize alB keep l2 (x.getD i []) = al at *
      generalize x.getD i [] = rw at *
      refine awp_loopC (τ := Nat) (fun j => j ≤ rw.length) (fun j => ⟨36, [(42, .int .i64 j), (41, .int .i64 rw.length), (40, .roI rw), (14, .bool (al j)), (13, .bool (sm j)), (11, .int .i64 i), (23, .int .i64 i), (22, .int .i64 keep.length), (21, .roB keep), (10, .bool more2), (9, .own 4), (4, (.rop (.agg (.cons (.roI o) (.cons (.roI p) (.cons (.roII x) .nil)))))), (1, .roB keep), (2, .int .i64 q)], [(4, some (.bools l2))], []⟩) (fun j => rw.length - j) 0 [] ?_ (Nat.zero_le _) ?_
      · (refine ⟨rfl, ?_, ?_⟩ <;> simp only [zE0, zE1, zE2, zE3, zE4, zE5, evp, evx, ev1, evLoad, evStore, evBin, isBoolK, forall_const, z38, tb, Nat.reduceAdd, Nat.reduceSub, Nat.reduceMul, Nat.reduceEqDiff, Nat.reduceLeDiff, Nat.reduceLT, Nat.reduceBEq, Nat.reduceBNe, ↓reduceIte, reduceIte, zI])
        exact ⟨ha0, hs0⟩
      intro j hj
      have hsm1 := hsm j
      have hal1 := hal j
      have hrb2 := hrb1 j
      clear hsm hal hrb1
      repeat' first
        | with_reducible first | refine awp_seq ?_ | refine awp_block ?_ | refine next_then ?_ | refine next_block ?_ | refine exit_then ?_ | refine ret_then ?_ | refine ret_block ?_ | refine exit_here ?_ | refine awp_exit ?_ | refine awp_ret ?_ | refine awp_skip ?_ | refine awp_label ?_ | refine next_noGoto ?_ | refine ret_noGoto ?_ | refine exit_noGoto ?_ | refine awp_scope ?_
        | ((with_reducible refine exit_past ?_ ?_); exact rfl)
        | ((with_reducible refine isCond ?_); refine awp_condO rfl ?_ ?_ <;> intro hb <;> (try simp only [zH] at hb))
        | ((with_reducible refine isReg ?_); (first | refine awp_textM htb hmz noSp (fun _ => false) rfl rfl ?_ | refine awp_drawM hmo htb hmz noSp (fun _ => false) rfl rfl (by kernel_rfl) ?_); intro m' e' l' ob h; simp only [zE0, zE1, zE2, zE3, zE4, zE5, evp, evx, ev1, evLoad, evStore, evBin, isBoolK, forall_const, z38, tb, Nat.reduceAdd, Nat.reduceSub, Nat.reduceMul, Nat.reduceEqDiff, Nat.reduceLeDiff, Nat.reduceLT, Nat.reduceBEq, Nat.reduceBNe, ↓reduceIte, reduceIte] at h; obtain ⟨rfl, rfl, rfl, rfl⟩ := h; refine ⟨?_, ?_⟩)
        | ((with_reducible refine Ob.mk ?_); first | exact trivial | (intros; omega) | ((repeat' first | apply And.intro | (intro hg; have hg' := hg; try simp only [zH] at hg')) <;> first | assumption | omega | (simp only [zH]; omega)))
      · refine back (j + 1) [] ?_ (by omega) (by omega)
        (refine ⟨rfl, ?_, ?_⟩ <;> simp only [zE0, zE1, zE2, zE3, zE4, zE5, evp, evx, ev1, evLoad, evStore, evBin, isBoolK, forall_const, z38, tb, Nat.reduceAdd, Nat.reduceSub, Nat.reduceMul, Nat.reduceEqDiff, Nat.reduceLeDiff, Nat.reduceLT, Nat.reduceBEq, Nat.reduceBNe, ↓reduceIte, reduceIte, zI])
        rw [hsm1 (by omega), hal1 (by omega), hb]
        simp
      · refine back (j + 1) [] ?_ (by omega) (by omega)
        (refine ⟨rfl, ?_, ?_⟩ <;> simp only [zE0, zE1, zE2, zE3, zE4, zE5, evp, evx, ev1, evLoad, evStore, evBin, isBoolK, forall_const, z38, tb, Nat.reduceAdd, Nat.reduceSub, Nat.reduceMul, Nat.reduceEqDiff, Nat.reduceLeDiff, Nat.reduceLT, Nat.reduceBEq, Nat.reduceBNe, ↓reduceIte, reduceIte, zI])
        rw [hsm1 (by omega), hal1 (by omega), hb]
        simp
      · have hje : j = rw.length := by omega
        subst hje
        have ht : tkB ⟨o, p, x⟩ keep q l2 i = true := by
          rw [htk]; rcases hb with ⟨h1, h2⟩ | ⟨h1, h2⟩ <;> simp only [h1, h2, decide_true, decide_false, Bool.and_self, Bool.true_or, Bool.or_true, Bool.false_and, Bool.not_false, Bool.not_true, Bool.and_true, Bool.false_or]
        have hcf := cf_set (l := l2) (t := i) (by omega) hbl
        refine back ⟨l2.set i true, true, i + 1⟩ [] ?_ ⟨by dsimp only; omega, IsI_set hI2 hio hbk ht, (fun h => by cases h), fun _ => ?_⟩ (by dsimp only; omega)
        · (refine ⟨rfl, ?_, ?_⟩ <;> simp only [zE0, zE1, zE2, zE3, zE4, zE5, evp, evx, ev1, evLoad, evStore, evBin, isBoolK, forall_const, z38, tb, Nat.reduceAdd, Nat.reduceSub, Nat.reduceMul, Nat.reduceEqDiff, Nat.reduceLeDiff, Nat.reduceLT, Nat.reduceBEq, Nat.reduceBNe, ↓reduceIte, reduceIte, zI])
        · dsimp only
          cases more2 with
          | true => have := hm2 rfl; omega
          | false => obtain ⟨e, _⟩ := hn2 rfl; rw [← e]; omega
      · have hje : j = rw.length := by omega
        subst hje
        have ht : tkB ⟨o, p, x⟩ keep q l2 i = false := by
          rw [htk]
          simp only [Bool.or_eq_false_iff, Bool.and_eq_false_iff, decide_eq_false_iff_not, Bool.not_eq_false', decide_eq_true_eq]
          exact hb
        refine back ⟨l2, more2, i + 1⟩ [] ?_ ⟨by dsimp only; omega, hI2, fun h => ⟨(hn2 h).1, fun v hv hk hl => ?_⟩, hm2⟩ (by dsimp only; omega)
        · (refine ⟨rfl, ?_, ?_⟩ <;> simp only [zE0, zE1, zE2, zE3, zE4, zE5, evp, evx, ev1, evLoad, evStore, evBin, isBoolK, forall_const, z38, tb, Nat.reduceAdd, Nat.reduceSub, Nat.reduceMul, Nat.reduceEqDiff, Nat.reduceLeDiff, Nat.reduceLT, Nat.reduceBEq, Nat.reduceBNe, ↓reduceIte, reduceIte, zI])
        · rcases Nat.lt_succ_iff_lt_or_eq.1 hv with h1 | rfl
          · exact (hn2 h).2 v h1 hk hl
          · exact ht
    · refine back ⟨l2, more2⟩ [] ?_ ⟨hI2, fun h v hv => (hn2 h).2 v (by omega)⟩ ?_
      · (refine ⟨rfl, ?_, ?_⟩ <;> simp only [zE0, zE1, zE2, zE3, zE4, zE5, evp, evx, ev1, evLoad, evStore, evBin, isBoolK, forall_const, z38, tb, Nat.reduceAdd, Nat.reduceSub, Nat.reduceMul, Nat.reduceEqDiff, Nat.reduceLeDiff, Nat.reduceLT, Nat.reduceBEq, Nat.reduceBNe, ↓reduceIte, reduceIte, zI])
      · dsimp only
        cases more2 with
        | true => have := hm2 rfl; unfold b01; split <;> simp <;> omega
        | false => obtain ⟨e, _⟩ := hn2 rfl; rw [e, hmt]; exact Nat.lt_succ_self _
  refine awp_fzN 4 (.roB l) (by simp only [lkr_cons, lkr_nil, fzE, fzA, fzR, fzB, set1, nbeq, Nat.reduceEqDiff, decide_true, decide_false, ↓reduceIte, reduceIte, cond_true, cond_false, List.take_length, Option.some.injEq]; rfl) (by first | exact rfl | (refine ⟨?_, rfl⟩; first | rfl | (intros; rfl))) (by simp only [lkr_cons, lkr_nil, fzE, fzA, fzR, fzB, set1, nbeq, Nat.reduceEqDiff, decide_true, decide_false, ↓reduceIte, reduceIte, cond_true, cond_false, List.take_length, Option.some.injEq]; rfl) (by simp only [lkr_cons, lkr_nil, fzE, fzA, fzR, fzB, set1, nbeq, Nat.reduceEqDiff, decide_true, decide_false, ↓reduceIte, reduceIte, cond_true, cond_false, List.take_length, Option.some.injEq]; rfl) ?_
  repeat' first
    | with_reducible first | refine awp_seq ?_ | refine awp_block ?_ | refine next_then ?_ | refine next_block ?_ | refine exit_then ?_ | refine ret_then ?_ | refine ret_block ?_ | refine exit_here ?_ | refine awp_exit ?_ | refine awp_ret ?_ | refine awp_skip ?_ | refine awp_label ?_ | refine next_noGoto ?_ | refine ret_noGoto ?_ | refine exit_noGoto ?_ | refine awp_scope ?_
    | ((with_reducible refine exit_past ?_ ?_); exact rfl)
    | ((with_reducible refine isCond ?_); refine awp_condO rfl ?_ ?_ <;> intro hb <;> (try simp only [zH] at hb))
    | ((with_reducible refine isReg ?_); (first | refine awp_textM htb hmz noSp (fun _ => false) rfl rfl ?_ | refine awp_drawM hmo htb hmz noSp (fun _ => false) rfl rfl (by kernel_rfl) ?_); intro m' e' l' ob h; simp only [zE0, zE1, zE2, zE3, zE4, zE5, evp, evx, ev1, evLoad, evStore, evBin, isBoolK, forall_const, z38, tb, Nat.reduceAdd, Nat.reduceSub, Nat.reduceMul, Nat.reduceEqDiff, Nat.reduceLeDiff, Nat.reduceLT, Nat.reduceBEq, Nat.reduceBNe, ↓reduceIte, reduceIte] at h; obtain ⟨rfl, rfl, rfl, rfl⟩ := h; refine ⟨?_, ?_⟩)
    | ((with_reducible refine Ob.mk ?_); first | exact trivial | (intros; omega) | ((repeat' first | apply And.intro | (intro hg; have hg' := hg; try simp only [zH] at hg')) <;> first | assumption | omega | (simp only [zH]; omega)))
  refine fin_ret rfl rfl (spec_flat rfl ?_ rfl)
  subst hb
  rw [ins_eq (g := ⟨o, p, x⟩) hll hkl hI.sub hI.att (hm rfl)]
  rfl
end Go.Proofs.Ytlckljphakkomaa.Cal
