/- Own texts of the proof, merged, in order. -/
import Derived.RangeFuncIn
import Derived.RangeFuncRecord
import Derived.Below
import Derived.Test.YtbcghiagomkadaaS11
set_option linter.unusedVariables false
set_option linter.unusedSimpArgs false
namespace Go.Proofs.Ytbcghiagomkadaa.Pl
theorem nodup_len : ∀ (n : Nat) (l : List Nat), l.Nodup → (∀ x, x ∈ l → x < n) → l.length ≤ n := by
  intro n
  induction n with
  | zero => intro l _ h; cases l with
    | nil => simp
    | cons a t => exact absurd (h a List.mem_cons_self) (Nat.not_lt_zero _)
  | succ n ih =>
    intro l hn h
    have h1 := ih (l.filter fun x => x != n) (hn.filter _) (fun x hx => by
      rw [List.mem_filter] at hx
      have := h x hx.1
      have h2 : x ≠ n := by simpa using hx.2
      omega)
    have h2 : l.length ≤ (l.filter fun x => x != n).length + 1 := by
      clear ih h h1
      induction l with
      | nil => simp
      | cons a t ih =>
        rw [List.nodup_cons] at hn
        by_cases ha : a = n
        · subst ha
          have : (t.filter fun x => x != a) = t := List.filter_eq_self.2 fun x hx => by
            have : x ≠ a := fun e => hn.1 (e ▸ hx)
            simpa using this
          rw [List.filter_cons]
          simp [this]
        · rw [List.filter_cons]
          have : (a != n) = true := by simpa using ha
          rw [if_pos this]
          have := ih hn.2
          simp only [List.length_cons]
          omega
    omega
/-- The way: f from s, k steps. -/
def orb (f : Nat → Nat) (s : Nat) : Nat → Nat
  | 0 => s
  | k + 1 => f (orb f s k)
def Fresh (f : Nat → Nat) (s k : Nat) : Prop := ∀ i j, i < j → j < k → orb f s i ≠ orb f s j
theorem fresh_le {f : Nat → Nat} {s n k : Nat} (hn : ∀ j, orb f s j < n) (h : Fresh f s k) : k ≤ n := by
  have h1 := nodup_len n ((List.range k).map (orb f s)) (by
    rw [List.nodup_iff_pairwise_ne, List.pairwise_map]
    refine List.Pairwise.imp_of_mem ?_ (List.pairwise_lt_range (n := k))
    intro a b ha hb hab
    exact h a b hab (List.mem_range.1 hb)) (fun x hx => by
    obtain ⟨j, _, rfl⟩ := List.mem_map.1 hx
    exact hn j)
  simpa using h1
theorem fresh_succ {f : Nat → Nat} {s k : Nat} (h : Fresh f s k) (h2 : ∀ i, i < k → orb f s i ≠ orb f s k) : Fresh f s (k + 1) := fun i j hij hj => by
  rcases Nat.lt_succ_iff_lt_or_eq.1 hj with h' | rfl
  · exact h i j hij h'
  · exact h2 i hij
/-- Where the way first comes again to a place: the length of the way, and the place's first time. -/
def Again (f : Nat → Nat) (s L k : Nat) : Prop := Fresh f s L ∧ k < L ∧ orb f s L = orb f s k
theorem again_ex {f : Nat → Nat} {s n : Nat} (hn : ∀ j, orb f s j < n) : ∃ L k, Again f s L k ∧ L ≤ n := by
  have key : ∀ m, m ≤ n + 1 → Fresh f s m ∨ ∃ L k, Again f s L k ∧ L < m := by
    intro m
    induction m with
    | zero => intro _; exact .inl fun i j _ hj => absurd hj (Nat.not_lt_zero _)
    | succ m ih =>
      intro hm
      rcases ih (by omega) with h | ⟨L, k, h, hl⟩
      · by_cases hx : ∃ i, i < m ∧ orb f s i = orb f s m
        · obtain ⟨i, hi, e⟩ := hx
          exact .inr ⟨m, i, ⟨h, hi, e.symm⟩, by omega⟩
        · exact .inl (fresh_succ h fun i hi e => hx ⟨i, hi, e⟩)
      · exact .inr ⟨L, k, h, by omega⟩
  rcases key (n + 1) (Nat.le_refl _) with h | ⟨L, k, h, hl⟩
  · have := fresh_le hn h; omega
  · exact ⟨L, k, h, by omega⟩
end Go.Proofs.Ytbcghiagomkadaa.Pl
namespace Go.Proofs.Ytbcghiagomkadaa.Cal
theorem take1 {α : Type} {x : List α} {i : Nat} {d : α} (h : i < x.length) : x.take (i + 1) = x.take i ++ [x.getD i d] := by
  rw [List.take_add_one, List.getD_eq_getElem?_getD, List.getElem?_eq_getElem h]; rfl
/-- The first i as f says, the others as h says. -/
def mix {β : Type} (f h : Nat → β) (n i : Nat) : List β := (List.range n).map fun v => if v < i then f v else h v
theorem mix_len {β : Type} {f h : Nat → β} {n i : Nat} : (mix f h n i).length = n := by simp [mix]
theorem mix_set {β : Type} {f h : Nat → β} {n i : Nat} : (mix f h n i).set i (f i) = mix f h n (i + 1) := by
  refine List.ext_getElem? fun j => ?_
  rw [List.getElem?_set]
  simp only [mix, List.getElem?_map, List.length_map, List.length_range]
  by_cases hj : j < n
  · rw [List.getElem?_range hj]
    by_cases hij : i = j
    · subst hij; simp [hj]
    · rw [if_neg hij]
      simp only [Option.map_some, Option.some.injEq]
      by_cases h1 : j < i
      · rw [if_pos h1, if_pos (by omega)]
      · rw [if_neg h1, if_neg (by omega)]
  · rw [List.getElem?_eq_none (by simpa using hj)]
    by_cases hij : i = j
    · subst hij; simp [hj]
    · rw [if_neg hij]; rfl
theorem mix_keep {β : Type} {f h : Nat → β} {n i : Nat} (e : f i = h i) : mix f h n i = mix f h n (i + 1) := by
  refine List.map_congr_left fun v hv => ?_
  by_cases h1 : v < i
  · rw [if_pos h1, if_pos (by omega)]
  · by_cases h2 : v = i
    · subst h2; rw [if_neg h1, if_pos (by omega), e]
    · rw [if_neg h1, if_neg (by omega)]
theorem mix_zero {β : Type} {f : Nat → β} {x : List β} {d : β} : mix f (fun v => x.getD v d) x.length 0 = x := by
  refine List.ext_getElem (by simp [mix]) fun j h1 h2 => ?_
  simp [mix, List.getD_eq_getElem?_getD, h2]
theorem mix_all {β : Type} {f h : Nat → β} {n : Nat} : mix f h n n = (List.range n).map f := by
  refine List.map_congr_left fun v hv => ?_
  rw [if_pos (List.mem_range.1 hv)]
/-- The positions that are kept, below n. -/
def kp (k : List Bool) (n : Nat) : List Nat := (List.range n).filter fun v => k.getD v false
theorem kp_succ {k : List Bool} {n : Nat} : kp k (n + 1) = if k.getD n false = true then kp k n ++ [n] else kp k n := by
  unfold kp
  rw [List.range_succ, List.filter_append]
  cases h : k.getD n false with
  | true => rw [if_pos rfl]; congr 1; simp only [List.filter_cons, h, List.filter_nil]; rfl
  | false => rw [if_neg (by decide)]; simp only [List.filter_cons, h, List.filter_nil]; exact List.append_nil _
theorem kp_len {k : List Bool} {n : Nat} : (kp k n).length ≤ n := by
  have := List.length_filter_le (fun v => k.getD v false) (List.range n)
  rw [List.length_range] at this; exact this
end Go.Proofs.Ytbcghiagomkadaa.Cal
namespace Go.Proofs.Ytbcghiagomkadaa.Cal
open Go Pl
/-- The positions below i that have a move to t, in order, as often as they have it. -/
def bkI (x : List (List Int)) (t : Nat) : Nat → List Int
  | 0 => []
  | i + 1 => bkI x t i ++ List.replicate ((x.getD i []).count (t : Int)) (i : Int)
def bkJ (x : List (List Int)) (t i j : Nat) : List Int := bkI x t i ++ List.replicate (((x.getD i []).take j).count (t : Int)) (i : Int)
theorem bkI_len {x : List (List Int)} {t : Nat} (h : ∀ v, v < x.length → (x.getD v []).length ≤ 64) : ∀ i, i ≤ x.length → (bkI x t i).length ≤ 64 * i
  | 0, _ => by simp [bkI]
  | i + 1, hi => by
    have h1 := bkI_len (t := t) h i (by omega)
    have h2 : (x.getD i []).count (t : Int) ≤ (x.getD i []).length := List.count_le_length
    have h3 := h i (by omega)
    simp only [bkI, List.length_append, List.length_replicate]
    omega
theorem bkJ_zero {x : List (List Int)} {t i : Nat} : bkJ x t i 0 = bkI x t i := by simp [bkJ]
theorem bkJ_all {x : List (List Int)} {t i : Nat} : bkJ x t i (x.getD i []).length = bkI x t (i + 1) := by
  unfold bkJ; rw [List.take_length]; rfl
theorem bkJ_succ {x : List (List Int)} {t i j : Nat} (h : j < (x.getD i []).length) : bkJ x t i (j + 1) = if (x.getD i []).getD j 0 = (t : Int) then bkJ x t i j ++ [(i : Int)] else bkJ x t i j := by
  unfold bkJ
  rw [take1 (d := 0) h, List.count_append]
  by_cases he : (x.getD i []).getD j 0 = (t : Int)
  · rw [if_pos he, he, List.count_singleton_self, List.replicate_succ', List.append_assoc]
  · rw [if_neg he, List.count_singleton]
    have : ((x.getD i []).getD j 0 == (t : Int)) = false := by simpa using he
    rw [this]; simp
theorem map_set {β : Type} {f f' : Nat → β} {n t : Nat} {y : β} (h1 : t < n → f' t = y) (h2 : ∀ s, s ≠ t → f' s = f s) : ((List.range n).map f).set t y = (List.range n).map f' := by
  refine List.ext_getElem (by simp) fun j a b => ?_
  simp only [List.length_set, List.length_map, List.length_range] at a
  rw [List.getElem_set]
  split
  · rename_i e; subst e; simp [h1 a]
  · rename_i e; simp [h2 j (Ne.symm e)]
/-- A row of a game goes upwards. -/
theorem row_up {n : Nat} : ∀ {l : List Int}, (∀ i, i < l.length → rowOK n l i) → l.Pairwise (· < ·)
  | [], _ => List.Pairwise.nil
  | [a], _ => List.pairwise_singleton _ _
  | a :: b :: t, h => by
    have h1 : (b :: t).Pairwise (· < ·) := row_up (l := b :: t) fun i hi => by
      have := h (i + 1) (by simpa using hi)
      obtain ⟨r1, r2, r3⟩ := this
      refine ⟨r1, r2, fun h0 => ?_⟩
      obtain ⟨j, rfl⟩ : ∃ j, i = j + 1 := ⟨i - 1, by omega⟩
      exact r3 (Nat.succ_pos _)
    have hab : a < b := (h 1 (by simp)).2.2 (Nat.succ_pos _)
    refine List.pairwise_cons.2 ⟨fun c hc => ?_, h1⟩
    rcases List.mem_cons.1 hc with rfl | hc
    · exact hab
    · have := (List.pairwise_cons.1 h1).1 c hc
      omega
theorem row_of {g : Gm} (hV : Valid g) {u : Nat} (hu : u < g.own.length) : (g.nxt.getD u []).Pairwise (· < ·) ∧ ∀ a, a ∈ g.nxt.getD u [] → 0 ≤ a ∧ a < g.own.length := by
  obtain ⟨_, hr⟩ := hV.2.2.2 u hu
  refine ⟨row_up hr, fun a ha => ?_⟩
  obtain ⟨i, hi, rfl⟩ := List.getElem_of_mem ha
  have := hr i hi
  obtain ⟨r1, r2, _⟩ := this
  simp only [Gm.x, Gm.n] at r1 r2
  rw [List.getD_eq_getElem?_getD, List.getElem?_eq_getElem hi, Option.getD_some] at r1 r2
  exact ⟨r1, r2⟩
/-- A row's successors, as numbers. -/
def rws (x : List (List Int)) (v : Nat) : List Nat := (x.getD v []).map Int.toNat
end Go.Proofs.Ytbcghiagomkadaa.Cal
namespace Go.Proofs.Ytbcghiagomkadaa.Cal
section
def up (f : Nat → Int) (v : Nat) (a : Int) : Nat → Int := fun w => if w = v then a else f w
theorem up_same {f : Nat → Int} {v : Nat} {a : Int} : up f v a v = a := if_pos rfl
theorem up_ne {f : Nat → Int} {v w : Nat} {a : Int} (h : w ≠ v) : up f v a w = f w := if_neg h
inductive Rch (E : Nat → Nat → Prop) : Nat → Nat → Prop
  | refl (a : Nat) : Rch E a a
  | step {a b c : Nat} : Rch E a b → E b c → Rch E a c
theorem Rch.trans {E : Nat → Nat → Prop} {a b c : Nat} (h : Rch E a b) (h2 : Rch E b c) : Rch E a c := by
  induction h2 with
  | refl => exact h
  | step _ e ih => exact .step ih e
theorem Rch.one {E : Nat → Nat → Prop} {a b : Nat} (h : E a b) : Rch E a b := .step (.refl a) h
theorem Rch.closed {E : Nat → Nat → Prop} {C : Nat → Prop} (hC : ∀ a b, C a → E a b → C b) {a b : Nat} (h : Rch E a b) (ha : C a) : C b := by
  induction h with
  | refl => exact ha
  | step _ e ih => exact hC _ _ ih e
theorem Rch.mono {E E' : Nat → Nat → Prop} (hE : ∀ a b, E a b → E' a b) {a b : Nat} (h : Rch E a b) : Rch E' a b := by
  induction h with
  | refl => exact .refl _
  | step _ e ih => exact .step ih (hE _ _ e)
def Ed (row : Nat → List Nat) (ok : Nat → Prop) (v t : Nat) : Prop := t ∈ row v ∧ ok t
structure TJ (n : Nat) (row : Nat → List Nat) (ok : Nat → Prop) (num low nx of : Nat → Int) (path stack : List Nat) (cnt many : Int) : Prop where
  n0 : ∀ v, v < n → 0 ≤ num v ∧ num v ≤ cnt
  inj : ∀ v w, v < n → w < n → 0 < num v → num v = num w → v = w
  mok : ∀ v, v < n → 0 < num v → ok v
  stk : ∀ v, v ∈ stack ↔ v < n ∧ 0 < num v ∧ of v < 0
  srt : stack.Pairwise fun a b => num a < num b
  psub : path.Sublist stack
  nx0 : ∀ v, v < n → 0 ≤ nx v ∧ nx v ≤ (row v).length
  fin : ∀ v, v < n → 0 < num v → v ∉ path → nx v = (row v).length
  met : ∀ v, v < n → 0 < num v → ∀ j : Nat, (j : Int) < nx v → ok ((row v).getD j 0) → 0 < num ((row v).getD j 0)
  nun : ∀ v, v < n → num v = 0 → nx v = 0
  cls : ∀ v, v < n → 0 ≤ of v → ∀ t, Ed row ok v t → 0 ≤ of t
  ofr : ∀ v, v < n → of v < many ∧ (0 ≤ of v → 0 < num v)
  ofn : ∀ v, v < n → -1 ≤ of v
  scc : ∀ v w, v < n → w < n → 0 ≤ of v → 0 ≤ of w → (of v = of w ↔ Rch (Ed row ok) v w ∧ Rch (Ed row ok) w v)
  i8 : ∀ v, v ∈ path → ∀ w, w ∈ stack → num v ≤ num w → Rch (Ed row ok) v w
  lw : ∀ w, w ∈ stack → ∃ u, u ∈ stack ∧ low w = num u ∧ Rch (Ed row ok) w u
  ll : ∀ w, w ∈ stack → low w ≤ num w
  i10a : ∀ w, w ∈ stack → w ∉ path → low w < num w
  i10b : ∀ p, p ∈ path → ∀ w, w ∈ stack → num p ≤ num w → (∀ p', p' ∈ path → num p' ≤ num w → num p' ≤ num p) → low p ≤ low w
  i11 : ∀ w, w ∈ stack → ∀ j : Nat, (j : Int) < nx w → ok ((row w).getD j 0) → (row w).getD j 0 ∈ stack → low w ≤ num ((row w).getD j 0)
  i12 : ∀ w, w ∈ stack → ∃ p, p ∈ path ∧ num p ≤ num w
  m0 : 0 ≤ many
  mc : many + stack.length ≤ cnt
section
variable {n : Nat} {row : Nat → List Nat} {ok : Nat → Prop} {num low nx of : Nat → Int} {path stack : List Nat} {cnt many : Int}
theorem TJ.pn (H : TJ n row ok num low nx of path stack cnt many) {v : Nat} (h : v ∈ path) : v ∈ stack := H.psub.subset h
theorem TJ.psrt (H : TJ n row ok num low nx of path stack cnt many) : path.Pairwise fun a b => num a < num b := H.srt.sublist H.psub
theorem TJ.last (H : TJ n row ok num low nx of path stack cnt many) {p : List Nat} {v : Nat} (h : path = p ++ [v]) : ∀ w, w ∈ p → num w < num v := by
  intro w hw
  have := H.psrt
  rw [h, List.pairwise_append] at this
  exact this.2.2 w hw v List.mem_cons_self
theorem TJ.lastle (H : TJ n row ok num low nx of path stack cnt many) {p : List Nat} {v : Nat} (h : path = p ++ [v]) : ∀ w, w ∈ path → num w ≤ num v := by
  intro w hw
  rw [h] at hw
  rcases List.mem_append.1 hw with hw | hw
  · have := H.last h w hw; omega
  · rw [List.mem_singleton.1 hw]; exact Int.le_refl _
/-- A position is met. -/
theorem TJ.enter (H : TJ n row ok num low nx of path stack cnt many) (hrow : ∀ v, v < n → ∀ t, t ∈ row v → t < n) {t : Nat} (ht : t < n) (hok : ok t) (hn : num t = 0) (hof : of t < 0)
    (hm : path = [] ∨ ∃ p v, path = p ++ [v] ∧ Ed row ok v t) :
    TJ n row ok (up num t (cnt + 1)) (up low t (cnt + 1)) nx of (path ++ [t]) (stack ++ [t]) (cnt + 1) many := by
  have hts : t ∉ stack := fun h => by have := ((H.stk t).1 h).2.1; omega
  have htp : t ∉ path := fun h => hts (H.pn h)
  have hcn : 0 ≤ cnt := by have := (H.n0 t ht).1; have := (H.n0 t ht).2; omega
  have hsn : ∀ w, w ∈ stack → up num t (cnt + 1) w = num w := fun w h => up_ne (fun e => hts (e ▸ h))
  have hsl : ∀ w, w ∈ stack → up low t (cnt + 1) w = low w := fun w h => up_ne (fun e => hts (e ▸ h))
  have hpn : ∀ w, w ∈ path → up num t (cnt + 1) w = num w := fun w h => hsn w (H.pn h)
  have hsb : ∀ w, w ∈ stack → w < n ∧ num w ≤ cnt := fun w h => by have h1 := ((H.stk w).1 h).1; exact ⟨h1, (H.n0 w h1).2⟩
  have hgt : ∀ w, 0 < num w → 0 < up num t (cnt + 1) w := fun w h => by
    by_cases e : w = t
    · subst e; rw [up_same]; omega
    · rw [up_ne e]; exact h
  have hto : ∀ v w, v ∈ stack → w = t → Rch (Ed row ok) v w → True := fun _ _ _ _ _ => trivial
  have hps : path = [] → stack = [] := fun h => by
    cases hs : stack with
    | nil => rfl
    | cons a l =>
      obtain ⟨p, hp, _⟩ := H.i12 a (by rw [hs]; exact List.mem_cons_self)
      rw [h] at hp; exact absurd hp List.not_mem_nil
  refine { n0 := fun v hv => ?_, inj := fun v w hv hw h1 h2 => ?_, mok := fun v hv h => ?_, stk := fun v => ?_, srt := ?_, psub := H.psub.append (List.Sublist.refl _), nx0 := H.nx0, fin := fun v hv h1 h2 => ?_, met := fun v hv h1 j hj h2 => ?_, nun := fun v hv h => ?_, cls := H.cls, ofr := fun v hv => ?_, ofn := H.ofn, scc := H.scc, i8 := fun v hv w hw h => ?_, lw := fun w hw => ?_, ll := fun w hw => ?_, i10a := fun w hw h => ?_, i10b := fun p hp w hw h1 h2 => ?_, i11 := fun w hw j hj h1 h2 => ?_, i12 := fun w hw => ?_, m0 := H.m0, mc := ?_ }
  · by_cases e : v = t
    · subst e; rw [up_same]; omega
    · rw [up_ne e]; have := H.n0 v hv; omega
  · by_cases e : v = t
    · by_cases e2 : w = t
      · rw [e, e2]
      · rw [e, up_same, up_ne e2] at h2
        have := (H.n0 w hw).2; omega
    · rw [up_ne e] at h1 h2
      by_cases e2 : w = t
      · rw [e2, up_same] at h2
        have := (H.n0 v hv).2; omega
      · rw [up_ne e2] at h2; exact H.inj v w hv hw h1 h2
  · by_cases e : v = t
    · rw [e]; exact hok
    · rw [up_ne e] at h; exact H.mok v hv h
  · rw [List.mem_append, List.mem_singleton]
    by_cases e : v = t
    · subst e
      rw [up_same]
      exact ⟨fun _ => ⟨ht, by omega, hof⟩, fun _ => .inr rfl⟩
    · rw [up_ne e]
      exact ⟨fun h => h.elim (fun h => (H.stk v).1 h) (fun h => absurd h e), fun h => .inl ((H.stk v).2 h)⟩
  · rw [List.pairwise_append]
    refine ⟨H.srt.imp_of_mem fun {a b} ha hb h => ?_, List.pairwise_singleton _ _, fun a ha b hb => ?_⟩
    · rw [hsn a ha, hsn b hb]; exact h
    · rw [List.mem_singleton.1 hb, up_same, hsn a ha]; have := (hsb a ha).2; omega
  · rw [List.mem_append, List.mem_singleton, not_or] at h2
    rw [up_ne h2.2] at h1
    exact H.fin v hv h1 h2.1
  · by_cases e : v = t
    · subst e; have := H.nun v hv hn; omega
    · rw [up_ne e] at h1
      exact hgt _ (H.met v hv h1 j hj h2)
  · by_cases e : v = t
    · subst e; rw [up_same] at h; omega
    · rw [up_ne e] at h; exact H.nun v hv h
  · refine ⟨(H.ofr v hv).1, fun h => hgt _ ((H.ofr v hv).2 h)⟩
  · rw [List.mem_append, List.mem_singleton] at hv hw
    rcases hv with hv | rfl
    · rcases hw with hw | rfl
      · rw [hpn v hv, hsn w hw] at h; exact H.i8 v hv w hw h
      · rcases hm with hm | ⟨p, u, hm, he⟩
        · rw [hm] at hv; exact absurd hv List.not_mem_nil
        · exact .step (H.i8 v hv u (H.pn (by rw [hm]; exact List.mem_append_right _ List.mem_cons_self)) (H.lastle hm v hv)) he
    · rcases hw with hw | rfl
      · rw [up_same, hsn w hw] at h; have := (hsb w hw).2; omega
      · exact .refl _
  · rw [List.mem_append, List.mem_singleton] at hw
    rcases hw with hw | rfl
    · obtain ⟨u, h1, h2, h3⟩ := H.lw w hw
      exact ⟨u, List.mem_append_left _ h1, by rw [hsl w hw, hsn u h1]; exact h2, h3⟩
    · exact ⟨w, List.mem_append_right _ List.mem_cons_self, by rw [up_same, up_same], .refl _⟩
  · rw [List.mem_append, List.mem_singleton] at hw
    rcases hw with hw | rfl
    · rw [hsl w hw, hsn w hw]; exact H.ll w hw
    · rw [up_same, up_same]; exact Int.le_refl _
  · rw [List.mem_append, List.mem_singleton] at hw h
    rw [not_or] at h
    rcases hw with hw | rfl
    · rw [hsl w hw, hsn w hw]; exact H.i10a w hw h.1
    · exact absurd rfl h.2
  · rw [List.mem_append, List.mem_singleton] at hw hp
    rcases hw with hw | rfl
    · rcases hp with hp | rfl
      · rw [hpn p hp, hsn w hw] at h1
        rw [hsl w hw, hsl p (H.pn hp)]
        refine H.i10b p hp w hw h1 fun p' hp' h => ?_
        have := h2 p' (List.mem_append_left _ hp') (by rw [hpn p' hp', hsn w hw]; exact h)
        rw [hpn p' hp', hpn p hp] at this; exact this
      · rw [up_same, hsn w hw] at h1; have := (hsb w hw).2; omega
    · rcases hp with hp | rfl
      · have := h2 w (List.mem_append_right _ List.mem_cons_self) (Int.le_refl _)
        rw [up_same, hpn p hp] at this
        have := (hsb p (H.pn hp)).2; omega
      · exact Int.le_refl _
  · rw [List.mem_append, List.mem_singleton] at hw
    rcases hw with hw | rfl
    · obtain ⟨hwn, hwp, _⟩ := (H.stk w).1 hw
      have hm2 := H.met w hwn hwp j hj h1
      have hne : (row w).getD j 0 ≠ t := fun e => by rw [e] at hm2; omega
      rw [hsl w hw, up_ne hne]
      rw [List.mem_append, List.mem_singleton] at h2
      exact H.i11 w hw j hj h1 (h2.elim id fun h => absurd h hne)
    · have := H.nun w ht hn; omega
  · rw [List.mem_append, List.mem_singleton] at hw
    rcases hw with hw | rfl
    · obtain ⟨p, hp, h⟩ := H.i12 w hw
      exact ⟨p, List.mem_append_left _ hp, by rw [hpn p hp, hsn w hw]; exact h⟩
    · exact ⟨w, List.mem_append_right _ List.mem_cons_self, Int.le_refl _⟩
  · have := H.mc
    rw [List.length_append, List.length_singleton]; omega
theorem TJ.first (H : TJ n row ok num low nx of path stack cnt many) {v : Nat} (hp : path = [v]) : low v = num v := by
  have hv : v ∈ path := by rw [hp]; exact List.mem_cons_self
  obtain ⟨u, h1, h2, _⟩ := H.lw v (H.pn hv)
  obtain ⟨a, ha, h⟩ := H.i12 u h1
  rw [hp, List.mem_singleton] at ha
  subst ha
  have := H.ll a (H.pn hv)
  omega
end
/-! Sums -/
def sm (f : Nat → Int) : Nat → Int
  | 0 => 0
  | n + 1 => sm f n + f n
theorem sm_same {f h : Nat → Int} : ∀ {n : Nat}, (∀ v, v < n → f v = h v) → sm f n = sm h n
  | 0, _ => rfl
  | n + 1, H => by rw [sm, sm, sm_same fun v hv => H v (by omega), H n (by omega)]
theorem sm_up {f : Nat → Int} {v : Nat} {a : Int} : ∀ {n : Nat}, v < n → sm (up f v a) n = sm f n - f v + a
  | 0, h => absurd h (Nat.not_lt_zero v)
  | n + 1, h => by
    rw [sm, sm]
    by_cases e : v = n
    · subst e
      rw [up_same, sm_same (f := up f v a) (h := f) fun w hw => up_ne (by omega)]
      omega
    · rw [sm_up (n := n) (by omega), up_ne (by omega)]
      omega
theorem sm_nonneg {f : Nat → Int} : ∀ {n : Nat}, (∀ v, v < n → 0 ≤ f v) → 0 ≤ sm f n
  | 0, _ => by unfold sm; omega
  | n + 1, H => by rw [sm]; have := sm_nonneg (f := f) (n := n) fun v hv => H v (by omega); have := H n (by omega); omega
end
section
open Go Pl
/-- The rows of a game as numbers. -/
def okP (p : List Int) (top : Int) (v : Nat) : Prop := p.getD v 0 ≤ top
theorem upL {xs : List Int} {v : Nat} {a : Int} (h : v < xs.length) : (fun w => (xs.set v a).getD w 0) = up (fun w => xs.getD w 0) v a := by
  funext w
  rw [getD_set h]; rfl
structure TS where
  num : List Int
  low : List Int
  nx : List Int
  of : List Int
  path : List Nat
  stack : List Nat
  cnt : Int
  many : Int
  i : Nat
def unm (num : List Int) (v : Nat) : Int := if num.getD v 0 = 0 then 1 else 0
structure TV (n : Nat) (p : List Int) (x : List (List Int)) (top : Int) (s : TS) : Prop where
  ln : s.num.length = n
  ll : s.low.length = n
  lx : s.nx.length = n
  lo : s.of.length = n
  tj : TJ n (rws x) (okP p top) (fun v => s.num.getD v 0) (fun v => s.low.getD v 0) (fun v => s.nx.getD v 0) (fun v => s.of.getD v 0) s.path s.stack s.cnt s.many
  cn : s.cnt + sm (unm s.num) n = n
  im : s.i ≤ n
  dn : ∀ v, v < s.i → okP p top v → 0 < s.num.getD v 0
theorem TV.facts {n : Nat} {p : List Int} {x : List (List Int)} {top : Int} {s : TS} (H : TV n p x top s) : 0 ≤ s.cnt ∧ s.cnt ≤ n ∧ 0 ≤ s.many ∧ s.many ≤ n ∧ s.path.length ≤ n ∧ s.stack.length ≤ n ∧ (∀ v, v ∈ s.path → v < n) ∧ (∀ v, v ∈ s.stack → v < n) := by
  have h1 : 0 ≤ sm (unm s.num) n := sm_nonneg fun v hv => by unfold unm; split <;> omega
  have h2 := H.cn
  have h3 := H.tj.mc
  have h4 := H.tj.m0
  have h5 : ∀ v, v ∈ s.stack → v < n := fun v h => ((H.tj.stk v).1 h).1
  have h6 := H.tj.psub.length_le
  refine ⟨by omega, by omega, h4, by omega, by omega, by omega, fun v h => h5 v (H.tj.pn h), h5⟩
section
variable {n : Nat} {p : List Int} {x : List (List Int)} {top : Int} {s : TS}
theorem TV.next (H : TV n p x top s) (hi : s.i < n) (hd : okP p top s.i → 0 < s.num.getD s.i 0) : TV n p x top { s with i := s.i + 1 } :=
  { H with
    im := hi
    dn := fun v hv ho => (Nat.lt_succ_iff_lt_or_eq.1 hv).elim (fun h => H.dn v h ho) (fun h => by subst h; exact hd ho) }
theorem TV.enter (H : TV n p x top s) (hrow : ∀ v, v < n → ∀ t, t ∈ rws x v → t < n) {t : Nat} (ht : t < n) (hok : okP p top t) (hn : s.num.getD t 0 = 0) (hm : s.path = [] ∨ ∃ q v, s.path = q ++ [v] ∧ Ed (rws x) (okP p top) v t) :
    TV n p x top { s with num := s.num.set t (s.cnt + 1), low := s.low.set t (s.cnt + 1), path := s.path ++ [t], stack := s.stack ++ [t], cnt := s.cnt + 1 } := by
  have h1 : t < s.num.length := by rw [H.ln]; exact ht
  have h2 : t < s.low.length := by rw [H.ll]; exact ht
  have hof : s.of.getD t 0 < 0 := by
    rcases Int.lt_or_le (s.of.getD t 0) 0 with h | h
    · exact h
    · have := (H.tj.ofr t ht).2 h
      have : 0 < s.num.getD t 0 := this
      omega
  have hc := H.facts.1
  have hj := H.tj.enter hrow ht hok hn hof hm
  refine { ln := by rw [List.length_set]; exact H.ln, ll := by rw [List.length_set]; exact H.ll, lx := H.lx, lo := H.lo, tj := by rw [upL h1, upL h2]; exact hj, cn := ?_, im := H.im, dn := fun v hv ho => ?_ }
  · have e : unm (s.num.set t (s.cnt + 1)) = up (unm s.num) t 0 := by
      funext w
      unfold unm up
      dsimp only
      rw [getD_set h1]
      by_cases e : w = t
      · rw [if_pos e, if_pos e, if_neg (by omega)]
      · rw [if_neg e, if_neg e]
    have e2 : unm s.num t = 1 := if_pos hn
    have := H.cn
    dsimp only
    rw [e, sm_up ht, e2]; omega
  · have := H.dn v hv ho
    show 0 < (s.num.set t (s.cnt + 1)).getD v 0
    rw [getD_set h1]
    split
    · omega
    · exact this
end
end
section
open Go Pl
/-- By at least one move, through positions up to a priority. -/
def Rch1 (g : Gm) (top : Int) (v w : Nat) : Prop := ∃ t, Ed (rws g.nxt) (okP g.pri top) v t ∧ Rch (Ed (rws g.nxt) (okP g.pri top)) t w
end
section
open Go Pl
def RchA (x : List (List Int)) : Nat → Nat → Prop := Rch fun a b => b ∈ rws x a
theorem RchA.cons {x : List (List Int)} {a b c : Nat} (h : b ∈ rws x a) (h2 : RchA x b c) : RchA x a c := Rch.trans (Rch.one h) h2
/-- A position that comes again by a way whose greatest priority is its own and the player's. -/
def again (g : Gm) (pl : Int) (v : Nat) : Prop := g.pri.getD v 0 % 2 = pl ∧ Rch1 g (g.pri.getD v 0) v v
/-- From where a player who chooses alone wins. -/
def alone (g : Gm) (pl : Int) (v : Nat) : Prop := ∃ w, w < g.own.length ∧ again g pl w ∧ RchA g.nxt v w
open Classical in
noncomputable def aloneL (g : Gm) (pl : Int) : List Bool := (List.range g.own.length).map fun v => decide (alone g pl v)
theorem aloneL_getD {g : Gm} {pl : Int} {v : Nat} (hv : v < g.own.length) : (aloneL g pl).getD v false = true ↔ alone g pl v := by
  simp [aloneL, List.getD_eq_getElem?_getD, hv]
end
end Go.Proofs.Ytbcghiagomkadaa.Cal
namespace Go.Proofs.Ytbcghiagomkadaa.Cal
section
open Pl
/-- The steps that end at a priority of at most w's. -/
def Low (E : Nat → Nat → Prop) (pri : Nat → Int) (w a b : Nat) : Prop := E a b ∧ pri b ≤ pri w
/-- A cycle through w on which no priority is greater than w's. -/
def Cyc (E : Nat → Nat → Prop) (pri : Nat → Int) (w : Nat) : Prop := ∃ t, Low E pri w w t ∧ Rch (Low E pri w) t w
theorem Rch.cons {E : Nat → Nat → Prop} {a b c : Nat} (h : E a b) (h2 : Rch E b c) : Rch E a c := Rch.trans (Rch.one h) h2
/-- The positions of a cycle. -/
def OnC (E : Nat → Nat → Prop) (pri : Nat → Int) (w t z : Nat) : Prop := Rch (Low E pri w) t z ∧ Rch (Low E pri w) z w
/-- A cycle whose steps are steps of another graph. -/
theorem cyc_to {E E' : Nat → Nat → Prop} {pri : Nat → Int} {w t : Nat} (ht : Low E pri w w t) (htw : Rch (Low E pri w) t w) (h : ∀ a b, OnC E pri w t a → OnC E pri w t b → E a b → E' a b) : Cyc E' pri w := by
  have hw : OnC E pri w t w := ⟨htw, .refl _⟩
  refine ⟨t, ⟨h w t hw ⟨.refl _, htw⟩ ht.1, ht.2⟩, ?_⟩
  have key : ∀ c, Rch (Low E pri w) t c → Rch (Low E pri w) c w → Rch (Low E' pri w) t c := by
    intro c hc
    induction hc with
    | refl => intro _; exact .refl _
    | step h1 e ih =>
      intro h2
      have h3 := Rch.cons e h2
      exact .step (ih h3) ⟨h _ _ ⟨h1, h3⟩ ⟨.step h1 e, h2⟩ e.1, e.2⟩
  exact key w htw (.refl _)
variable (own pri : Nat → Int) (sx : Nat → List Nat)
/-- The steps in the positions W of K that p plays by c. -/
def Stp (K : Nat → Prop) (W : Nat → Int) (c : Nat → Nat) (p : Int) (v t : Nat) : Prop := (K v ∧ W v = p) ∧ K t ∧ (own v = p → t = c v) ∧ (own v ≠ p → t ∈ sx v)
/-- p wins its positions of K by c. -/
structure Sol (K : Nat → Prop) (W : Nat → Int) (c : Nat → Nat) (p : Int) : Prop where
  mine : ∀ v, K v → W v = p → own v = p → c v ∈ sx v ∧ K (c v) ∧ W (c v) = p
  his : ∀ v, K v → W v = p → own v ≠ p → ∀ t, t ∈ sx v → K t → W t = p
  cyc : ∀ w, K w → W w = p → pri w % 2 ≠ p → ¬ Cyc (Stp own sx K W c p) pri w
/-- A is T and what q attracts to it in K, by c. -/
structure Atr (K A T : Nat → Prop) (q : Int) (c : Nat → Nat) (r : Nat → Nat) : Prop where
  sub : ∀ v, A v → K v
  base : ∀ v, T v → A v
  mine : ∀ v, A v → ¬ T v → own v = q → c v ∈ sx v ∧ A (c v) ∧ r (c v) < r v
  his : ∀ v, A v → ¬ T v → own v ≠ q → ∀ t, t ∈ sx v → K t → A t ∧ r t < r v
  outm : ∀ v, K v → ¬ A v → own v = q → ∀ t, t ∈ sx v → K t → ¬ A t
  outh : ∀ v, K v → ¬ A v → own v ≠ q → ∃ t, t ∈ sx v ∧ K t ∧ ¬ A t
variable {own pri sx}
variable {K A T R : Nat → Prop} {W W' : Nat → Int} {c c' : Nat → Nat} {r : Nat → Nat} {p q : Int}
theorem Stp.of (h : Sol own pri sx K W c p) {v t : Nat} (e : Stp own sx K W c p v t) : W t = p := by
  obtain ⟨⟨h1, h2⟩, h3, h4, h5⟩ := e
  by_cases ho : own v = p
  · rw [h4 ho]; exact (h.mine v h1 h2 ho).2.2
  · exact h.his v h1 h2 ho t (h5 ho) h3
theorem Sol.congr {c c' : Nat → Nat} (h : Sol own pri sx K W c' p) (hc : ∀ v, K v → W v = p → own v = p → c v = c' v) : Sol own pri sx K W c p := by
  refine ⟨fun v h1 h2 h3 => by rw [hc v h1 h2 h3]; exact h.mine v h1 h2 h3, h.his, fun w h1 h2 h3 => ?_⟩
  rintro ⟨t, ht, htw⟩
  refine h.cyc w h1 h2 h3 (cyc_to ht htw fun a b _ _ e => ?_)
  obtain ⟨⟨e1, e2⟩, e3, e4, e5⟩ := e
  exact ⟨⟨e1, e2⟩, e3, fun ho => by rw [e4 ho, hc a e1 e2 ho], e5⟩
variable {B : Nat → Prop} {W2 : Nat → Int} {cA : Nat → Nat} {rA rB : Nat → Nat}
theorem Atr.congr (h : Atr own sx K A T q c' r) (hc : ∀ v, A v → ¬ T v → own v = q → c v = c' v) : Atr own sx K A T q c r :=
  ⟨h.sub, h.base, fun v h1 h2 h3 => by rw [hc v h1 h2 h3]; exact h.mine v h1 h2 h3, h.his, h.outm, h.outh⟩
theorem Sol.none (h : ∀ v, ¬ K v) : Sol own pri sx K W c p := ⟨fun v hv => absurd hv (h v), fun v hv => absurd hv (h v), fun v hv => absurd hv (h v)⟩
/-! ### There is one solution -/
theorem max_at {f : Nat → Int} : ∀ {L k : Nat}, k < L → ∃ m, k ≤ m ∧ m < L ∧ ∀ j, k ≤ j → j < L → f j ≤ f m
  | 0, k, h => absurd h (Nat.not_lt_zero _)
  | L + 1, k, h => by
    by_cases e : k = L
    · subst e
      exact ⟨k, Nat.le_refl _, by omega, fun j h1 h2 => by rw [show j = k by omega]; exact Int.le_refl _⟩
    · obtain ⟨m, h1, h2, h3⟩ := max_at (f := f) (L := L) (k := k) (by omega)
      by_cases h4 : f m ≤ f L
      · refine ⟨L, by omega, by omega, fun j h5 h6 => ?_⟩
        by_cases h7 : j = L
        · rw [h7]; exact Int.le_refl _
        · have := h3 j h5 (by omega); omega
      · refine ⟨m, h1, by omega, fun j h5 h6 => ?_⟩
        by_cases h7 : j = L
        · rw [h7]; omega
        · exact h3 j h5 (by omega)
/-- A map that stays in D has a cycle there: one of its steps in any graph that has these steps. -/
theorem cyc_of {F : Nat → Nat} {D : Nat → Prop} {n s : Nat} (hD : ∀ v, D v → v < n ∧ D (F v)) (hs : D s) : ∃ w, D w ∧ ∀ E : Nat → Nat → Prop, (∀ v, D v → E v (F v)) → Cyc E pri w := by
  have hor : ∀ j, D (orb F s j) := fun j => by
    induction j with
    | zero => exact hs
    | succ j ih => exact (hD _ ih).2
  obtain ⟨L, k, ⟨_, hkL, he⟩, _⟩ := again_ex (f := F) (s := s) (n := n) fun j => (hD _ (hor j)).1
  obtain ⟨m, h1, h2, h3⟩ := max_at (f := fun j => pri (orb F s j)) hkL
  refine ⟨orb F s m, hor m, fun E hE => ?_⟩
  have hle : ∀ j, k ≤ j → j ≤ L → pri (orb F s j) ≤ pri (orb F s m) := fun j h4 h5 => by
    by_cases h6 : j = L
    · rw [h6, he]; exact h3 k (Nat.le_refl _) hkL
    · exact h3 j h4 (by omega)
  have hst : ∀ a b, k ≤ a → a ≤ b → b ≤ L → Rch (Low E pri (orb F s m)) (orb F s a) (orb F s b) := fun a b ha hab hb => by
    induction b with
    | zero => rw [show a = 0 by omega]; exact .refl _
    | succ b ih =>
      by_cases h : a = b + 1
      · rw [h]; exact .refl _
      · exact .step (ih (by omega) (by omega)) ⟨hE _ (hor b), hle (b + 1) (by omega) hb⟩
  refine ⟨orb F s (m + 1), ⟨hE _ (hor m), hle (m + 1) (by omega) (by omega)⟩, ?_⟩
  have h4 := hst (m + 1) L (by omega) (by omega) (Nat.le_refl _)
  rw [he] at h4
  exact h4.trans (hst k m (Nat.le_refl _) h1 (by omega))
end
end Go.Proofs.Ytbcghiagomkadaa.Cal
namespace Go.Proofs.Ytbcghiagomkadaa.Cal
open Go
section
variable {P : Program} {ro : Option Nat} {N κ : Nat} {tb : Nat → Option TI}
theorem awp_cut {id : Nat} {ops : Array Oper} {σ : St} {Q : Exit → St → Prop} (l1 : List Oper) {o : Oper} (l2 : List Oper) (he : ops = (l1 ++ o :: l2).toArray) (hG : noG (l1 ++ o :: l2) = true)
    (h : awpL P ro N κ l1 σ (thenQ (fun s => awpL P ro N κ [o] s (thenQ (fun s => awpL P ro N κ l2 s Q) Q)) Q)) : awp P ro N κ (.region id ops false) σ Q := by
  subst he
  refine awp_list hG (awpL_app ?_)
  intro n K Z ν w a hg
  refine wpList_mono ?_ (h n K Z ν w a hg)
  rintro e a' w' ⟨Z', ν', s', h1, h2, h3, h4⟩
  refine ⟨Z', ν', s', h1, h2, h3, ?_⟩
  cases e with
  | normal => exact awpL_app (l1 := [o]) h4
  | _ => exact h4
def rinR (kk : List Nat) (m : Nat) (l : List (Nat × Option Blk)) : List (Nat × Option Blk) → Prop
  | [] => True
  | (k, some B) :: t => (Nat.blt k kk.length = true ∧ menB (ltK kk.length) B ∧ lkr l (rhoC kk m k) = some (renB (rhoC kk m) B)) ∧ rinR kk m l t
  | (_, none) :: t => rinR kk m l t
theorem rinR_mem {kk : List Nat} {m : Nat} {l : List (Nat × Option Blk)} {k : Nat} {B : Blk} : ∀ {g : List (Nat × Option Blk)}, rinR kk m l g → (k, some B) ∈ g → Nat.blt k kk.length = true ∧ menB (ltK kk.length) B ∧ lkr l (rhoC kk m k) = some (renB (rhoC kk m) B)
  | [], _, h => absurd h List.not_mem_nil
  | (j, none) :: t, hg, h => by
    rcases List.mem_cons.1 h with e | h
    · cases e
    · exact rinR_mem (g := t) hg h
  | (j, some B') :: t, hg, h => by
    rcases List.mem_cons.1 h with e | h
    · cases e; exact hg.1
    · exact rinR_mem (g := t) hg.2 h
theorem awpL_callG {o : Oper} {x : Operand} {xs : List Operand} {ts : Array TypeId} {f m : Nat} {caps : AV} {env : List (Nat × AV)} {l : List (Nat × Option Blk)} {ms : List Nat} (kk : List Nat) {args : List AV} {rin : List (Nat × Option Blk)} {Q0 : GR → Prop} {Q : Exit → St → Prop}
    (hS : FG P f args rin kk.length Q0)
    (ho : o.op = .call ⟨.value x, xs.toArray, ts⟩) (hgd : o.guard.isNone = true) (hd : dstOK N [o] = true) (hf : opv (lke env) x = .fn f caps) (hpc : properL caps = true)
    (hargs : appL (ofL (opv (lke env)) xs) caps = ren (rhoC kk m) (mkL args)) (hmen : men (ltK kk.length) (mkL args) = true) (hkk : kkOK m kk = true) (hκ : Nat.ble κ m = true)
    (hrin : rinR kk m l rin)
    (next : ∀ gm gv gr, Q0 ⟨gm, gv, gr⟩ → ∀ m' e' l', (m + (gm - kk.length) = m' ∧ putE o.dst (ren (rhoC kk m) gv) env = e' ∧ outR kk m gr l = l') → Q .normal (CS.st ⟨m', e', l', ms⟩)) : awpL P ro N κ [o] (CS.st ⟨m, env, l, ms⟩) Q := by
  refine awpL_call (s := ⟨m, env, l, ms⟩) kk hS ho hgd hd hf hpc hargs hmen hkk hκ (fun j B hj => ?_) (fun g hg hle => next g.m g.val g.rs hg _ _ _ ⟨rfl, rfl, rfl⟩)
  obtain ⟨h1, h2, h3⟩ := rinR_mem hrin (mem_keysOf hj).2
  rw [Nat.blt_eq] at h1
  exact ⟨h1, h2, h3⟩
end
end Go.Proofs.Ytbcghiagomkadaa.Cal
namespace Go.Proofs.Ytbcghiagomkadaa.Cal
open Go Pl
/-- The game in which a player follows its choices. -/
def fromG (g : Gm) (pl : Int) (c : List Int) : Gm := ⟨g.own, g.pri, (List.range g.own.length).map fun v => if g.own.getD v 0 = pl then [c.getD v 0] else g.nxt.getD v []⟩
theorem fromG_x {g : Gm} {pl : Int} {c : List Int} {v : Nat} (hv : v < g.own.length) : (fromG g pl c).nxt.getD v [] = if g.own.getD v 0 = pl then [c.getD v 0] else g.nxt.getD v [] := by
  simp [fromG, List.getD_eq_getElem?_getD, hv]
noncomputable def fromL (g : Gm) (pl : Int) (c : List Int) : List Bool := (List.range g.own.length).map fun v => !(aloneL (fromG g pl c) (1 - pl)).getD v false
end Go.Proofs.Ytbcghiagomkadaa.Cal
namespace Go.Proofs.Ytbcghiagomkadaa.Cal
section
open Go Pl
structure GOk (g : Gm) : Prop where
  pl : g.pri.length = g.own.length
  xl : g.nxt.length = g.own.length
  n : g.own.length ≤ 20000
  own : ∀ v, v < g.own.length → g.own.getD v 0 = 0 ∨ g.own.getD v 0 = 1
  pri : ∀ v, v < g.own.length → 0 ≤ g.pri.getD v 0 ∧ g.pri.getD v 0 ≤ 60
  row : ∀ v, v < g.own.length → ∀ t, t ∈ rws g.nxt v → t < g.own.length
  len : ∀ v, v < g.own.length → 0 < (g.nxt.getD v []).length ∧ (g.nxt.getD v []).length ≤ 64
  at' : ∀ v, v < g.own.length → ∀ j, j < (g.nxt.getD v []).length → 0 ≤ (g.nxt.getD v []).getD j 0 ∧ (g.nxt.getD v []).getD j 0 < g.own.length
theorem gok {g : Gm} (h : Valid g) : GOk g := by
  obtain ⟨hn, hpl, hxl, hpos⟩ := h
  have hr : ∀ v, v < g.own.length → ∀ j, j < (g.nxt.getD v []).length → 0 ≤ (g.nxt.getD v []).getD j 0 ∧ (g.nxt.getD v []).getD j 0 < g.own.length := fun v hv j hj => by
    obtain ⟨_, hr⟩ := hpos v hv
    exact ⟨(hr j hj).1, (hr j hj).2.1⟩
  refine ⟨hpl, hxl, hn, fun v hv => ?_, fun v hv => ?_, fun v hv t ht => ?_, fun v hv => ?_, hr⟩
  · obtain ⟨⟨a1, a2, a3, a4, a5, a6⟩, _⟩ := hpos v hv
    simp only [Gm.o] at a1 a2
    omega
  · obtain ⟨⟨a1, a2, a3, a4, a5, a6⟩, _⟩ := hpos v hv
    exact ⟨a3, a4⟩
  · obtain ⟨s, h1, rfl⟩ := List.mem_map.1 ht
    obtain ⟨j, hj, rfl⟩ := List.getElem_of_mem h1
    have := hr v hv j hj
    rw [List.getD_eq_getElem?_getD, List.getElem?_eq_getElem hj, Option.getD_some] at this
    omega
  · obtain ⟨⟨a1, a2, a3, a4, a5, a6⟩, _⟩ := hpos v hv
    exact ⟨a5, a6⟩
end
end Go.Proofs.Ytbcghiagomkadaa.Cal
namespace Go.Proofs.Ytbcghiagomkadaa.Cal
section
open Go Pl
theorem Rch.mapD {E E' : Nat → Nat → Prop} {D : Nat → Prop} {f : Nat → Nat} (h : ∀ a b, D a → E a b → E' (f a) (f b) ∧ D b) {a b : Nat} (hr : Rch E a b) (ha : D a) : Rch E' (f a) (f b) ∧ D b := by
  induction hr with
  | refl => exact ⟨.refl _, ha⟩
  | step _ e ih => exact ⟨.step ih.1 (h _ _ ih.2 e).1, (h _ _ ih.2 e).2⟩
theorem kp_get {k : List Bool} {v : Nat} (h : k.getD v false = true) : ∀ {n : Nat}, v < n → (kp k v).length < (kp k n).length ∧ (kp k n).getD (kp k v).length 0 = v
  | 0, hv => absurd hv (Nat.not_lt_zero v)
  | n + 1, hv => by
    rw [kp_succ]
    by_cases e : v = n
    · subst e
      rw [if_pos h]
      refine ⟨by simp, ?_⟩
      rw [List.getD_eq_getElem?_getD, List.getElem?_append_right (Nat.le_refl _), Nat.sub_self]; rfl
    · obtain ⟨h1, h2⟩ := kp_get h (n := n) (by omega)
      split
      · refine ⟨by rw [List.length_append, List.length_singleton]; omega, ?_⟩
        rw [List.getD_eq_getElem?_getD, List.getElem?_append_left h1, ← List.getD_eq_getElem?_getD]; exact h2
      · exact ⟨h1, h2⟩
theorem kp_at {k : List Bool} {n i : Nat} (h : i < (kp k n).length) : (kp k n).getD i 0 < n ∧ k.getD ((kp k n).getD i 0) false = true := by
  have hm : (kp k n).getD i 0 ∈ kp k n := by
    rw [List.getD_eq_getElem?_getD, List.getElem?_eq_getElem h]; exact List.getElem_mem h
  have := List.mem_filter.1 hm
  exact ⟨List.mem_range.1 this.1, this.2⟩
/-- Where a play may go on. -/
def nxF (g : Gm) (C : List Int) (p : Int) (v : Nat) : List Int := if g.own.getD v 0 = p then [C.getD v 0] else g.nxt.getD v []
theorem mem_ix {l : List Int} {t : Int} (h : t ∈ l) : ∃ j, j < l.length ∧ l.getD j 0 = t := by
  obtain ⟨j, hj, e⟩ := List.getElem_of_mem h
  exact ⟨j, hj, by rw [List.getD_eq_getElem?_getD, List.getElem?_eq_getElem hj, Option.getD_some]; exact e⟩
end
end Go.Proofs.Ytbcghiagomkadaa.Cal
namespace Go.Proofs.Ytbcghiagomkadaa.Cal
open Go
section
variable {P : Program} {ro : Option Nat} {N κ : Nat} {tb : Nat → Option TI}
/-- What a caller hands over and gets back, around whatever is called. -/
theorem call_frame {s : CS} {kk : List Nat} {rin : List (Nat × Option Blk)} {Q0 : GR → Prop} {Q : Exit → St → Prop} {dst : Option Nat} (hd' : ∀ d, dst = some d → d < N) (hkk : kkOK s.m kk = true) (hκ : Nat.ble κ s.m = true)
    (hrin : ∀ j B, lkr rin j = some B → j < kk.length ∧ menB (ltK kk.length) B ∧ lkr s.rs (rhoC kk s.m j) = some (renB (rhoC kk s.m) B))
    (next : ∀ g, Q0 g → kk.length ≤ g.m → Q .normal (CS.st ⟨s.m + (g.m - kk.length), putE dst (ren (rhoC kk s.m) g.val) s.env, outR kk s.m g.rs s.rs, s.ms⟩))
    {K Z : Nat → Prop} {w : World} {ν : Nat → Value} {a : Act} (hg : Good K Z N w ν s.st a) :
    ∃ Kc : Nat → Prop, GoodRs Kc Z w (fun j => ν (rhoC kk s.m j)) (ltK kk.length) (lkr rin) ∧ (∀ b, Z b → Kc b) ∧ (∀ b, Kc b → b < w.heap.size) ∧
      ∀ (y : Value) (w' : World) (Z' : Nat → Prop) (ν' : Nat → Value) (g : GR), Step Kc Z w Z' w' → (∀ k, (ν' k).oneCell' = true) → (∀ k, k < kk.length → ν' k = ν (rhoC kk s.m k)) → R Z' w' g.val ν' true [y] → men (ltK g.m) g.val = true →
        GoodRs (un Kc Z') Z' w' ν' (ltK g.m) (lkr g.rs) → (∀ b, Z' b → b < w'.heap.size) → Q0 g → kk.length ≤ g.m → Post N κ K Z w ν Q .normal (a.put dst y) w' := by
  obtain ⟨Ft, hF⟩ := id hg.rs
  have hF' : ∀ k B, lkr s.rs k = some B → k < s.m := fun k B hk => by
    have := (hF k B hk).1
    rwa [show (s.st).mu k = Nat.blt k s.m from rfl, Nat.blt_eq] at this
  let ρ := rhoC kk s.m
  have hρ : ∀ i j, ρ i = ρ j → i = j := fun i j h => rhoC_inj hkk h
  let Kc : Nat → Prop := fun b => K b ∨ ∃ k B, k ∉ kk ∧ lkr s.rs k = some B ∧ Ft k b
  have hKc : ∀ b, Kc b → b < w.heap.size := fun b hb => hb.elim (hg.kl b) fun ⟨k, B, _, hk, hb⟩ => ((hF k B hk).2.2.2.1 b hb).2
  refine ⟨Kc,
      ⟨fun j => Ft (ρ j), fun j B hj => by
        obtain ⟨r1, r2, r3⟩ := hrin j B hj
        obtain ⟨g1, g2, g3, g4, g5⟩ := hF _ _ r3
        refine ⟨by show Nat.blt j _ = true; rw [Nat.blt_eq]; exact r1, r2, sat_ren.1 g3, fun b hb => ⟨?_, (g4 b hb).2⟩, fun j' B' hne hj' => ?_⟩
        · rintro (h | ⟨k, B', hk, hkr, h⟩)
          · exact (g4 b hb).1 h
          · exact g5 k B' (fun e => hk (e ▸ (rhoC_lt r1 hkk).1)) hkr b hb h
        · obtain ⟨q1, q2, q3⟩ := hrin j' B' hj'
          exact g5 _ _ (fun e => hne (hρ _ _ e)) q3⟩,
    fun b hb => .inl (hg.zk b hb), hKc, ?_⟩
  intro y w' Z' ν' g hstep h1' hν hr' hm' ⟨Fn, hFn⟩ hzs hq hle
  let νn : Nat → Value := fun k => if k < s.m then ν k else ν' (k - s.m + kk.length)
  have hνρ : ∀ j, j < g.m → νn (ρ j) = ν' j := fun j hj => by
    show (if ρ j < s.m then _ else _) = _
    rcases Nat.lt_or_ge j kk.length with h | h
    · rw [if_pos (rhoC_lt h hkk).2, hν j h]
    · rw [show ρ j = s.m + (j - kk.length) from rhoC_ge h, if_neg (by omega)]
      congr 1; omega
  have hold : ∀ b, Kc b → w'.heap[b]? = w.heap[b]? := hstep.ext.block
  have hst : Step K Z w Z' w' := ⟨⟨hstep.ext.os, hstep.ext.tape, hstep.ext.output, hstep.ext.size, fun b hb => hold b (.inl hb)⟩, hstep.le, fun b hb => (hstep.new b hb).imp id fun h hk => h (.inl hk)⟩
  have hνold : ∀ k, ltK s.m k = true → νn k = ν k := fun k hk => by
    rw [ltK, Nat.blt_eq] at hk
    exact if_pos hk
  have hR' : R Z' w' (ren ρ g.val) νn true [y] := R_ren.2 (R_nu (fun k hk => hνρ k (by rw [ltK, Nat.blt_eq] at hk; exact hk)) hm' hr')
  have hgood : Good (un K Z') Z' N w' νn ⟨ltK (s.m + (g.m - kk.length)), lke s.env, lkr (outR kk s.m g.rs s.rs), s.ms⟩ a := by
    have hwide : ∀ k, ltK s.m k = true → ltK (s.m + (g.m - kk.length)) k = true := fun k hk => by
      simp only [ltK, Nat.blt_eq] at hk ⊢; omega
    refine ⟨hg.size, fun k => ?_, fun t => ⟨men_le hwide (hg.env t).1, R_nu hνold (hg.env t).1 (R_mono hst.le (fun b hb => hst.ext.block b (hg.zk b hb)) (hg.env t).2)⟩, ?_, fun b hb => .inr hb, fun b hb => ?_, ?_, fun k hk => hwide k (hg.ml k hk)⟩
    · show (if k < s.m then _ else _ : Value).oneCell' = true
      split
      · exact hg.one k
      · exact h1' _
    · refine ⟨fun k b => (∃ j B, ρ j = k ∧ lkr g.rs j = some B ∧ Fn j b) ∨ (k ∉ kk ∧ (∃ B, lkr s.rs k = some B) ∧ Ft k b), fun k B hk => ?_⟩
      have hcase : ∀ {k B}, lkr (outR kk s.m g.rs s.rs) k = some B → (∃ j B0, ρ j = k ∧ lkr g.rs j = some B0 ∧ B = renB ρ B0) ∨ ((∀ j B0, ρ j = k → lkr g.rs j ≠ some B0) ∧ k ∉ kk ∧ lkr s.rs k = some B) := by
        intro k B hk
        unfold lkr outR at hk
        rw [lko_app] at hk
        rcases lko_renR hρ (g := g.rs) (k := k) with ⟨j, e, x, h1, h2⟩ | ⟨h1, h2⟩
        · rw [h2] at hk
          dsimp only at hk
          cases x with
          | none => cases hk
          | some B0 =>
            simp only [Option.map_some, Option.some.injEq] at hk
            exact .inl ⟨j, B0, e, by unfold lkr; rw [h1], hk.symm⟩
        · rw [h1] at hk
          dsimp only at hk
          obtain ⟨d1, d2⟩ := lkr_dels (kk := kk) (l := s.rs) (k := k) (B := B) hk
          refine .inr ⟨fun j B0 e h => ?_, d1, d2⟩
          unfold lkr at h
          rw [h2 j e] at h; cases h
      have hnewF : ∀ {j B0}, lkr g.rs j = some B0 → ∀ b, ((∃ j' B, ρ j' = ρ j ∧ lkr g.rs j' = some B ∧ Fn j' b) ∨ (ρ j ∉ kk ∧ (∃ B, lkr s.rs (ρ j) = some B) ∧ Ft (ρ j) b)) ↔ Fn j b := by
        intro j B0 hj b
        constructor
        · rintro (⟨j', B, e, _, h⟩ | ⟨h1, ⟨B, h2⟩, _⟩)
          · rw [hρ _ _ e] at h; exact h
          · exfalso
            rcases Nat.lt_or_ge j kk.length with h | h
            · exact h1 (rhoC_lt h hkk).1
            · have := hF' _ _ h2
              rw [show ρ j = s.m + (j - kk.length) from rhoC_ge h] at this
              omega
        · exact fun h => .inl ⟨j, B0, rfl, hj, h⟩
      have holdF : ∀ {k B}, (∀ j B0, ρ j = k → lkr g.rs j ≠ some B0) → k ∉ kk → lkr s.rs k = some B → ∀ b, ((∃ j' B, ρ j' = k ∧ lkr g.rs j' = some B ∧ Fn j' b) ∨ (k ∉ kk ∧ (∃ B, lkr s.rs k = some B) ∧ Ft k b)) ↔ Ft k b := by
        intro k B h1 h2 h3 b
        constructor
        · rintro (⟨j', B, e, h, _⟩ | ⟨_, _, h⟩)
          · exact absurd h (h1 j' B e)
          · exact h
        · exact fun h => .inr ⟨h2, ⟨B, h3⟩, h⟩
      rcases hcase hk with ⟨j, B0, rfl, hj, rfl⟩ | ⟨c1, c2, c3⟩
      · obtain ⟨f1, f2, f3, f4, f5⟩ := hFn j B0 hj
        have hjm : j < g.m := by rw [ltK, Nat.blt_eq] at f1; exact f1
        have hFe := funext fun b => propext (hnewF hj b)
        refine ⟨men_rhoC hkk hle j f1, menB_renK (men_rhoC hkk hle) f2, ?_, fun b hb => ⟨?_, (f4 b ((hnewF hj b).1 hb)).2⟩, fun k' B' hne hk' b hb => ?_⟩
        · dsimp only
          rw [hFe, hνρ j hjm]
          exact sat_ren.2 (sat_nu (fun k hk => hνρ k (by rw [ltK, Nat.blt_eq] at hk; exact hk)) f2 f3)
        · have := (f4 b ((hnewF hj b).1 hb)).1
          rintro (h | h)
          · exact this (.inl (.inl h))
          · exact this (.inr h)
        · have hb := (hnewF hj b).1 hb
          rcases hcase hk' with ⟨j', B0', rfl, hj', rfl⟩ | ⟨c1, c2, c3⟩
          · exact fun h => f5 j' B0' (fun e => hne (by rw [e])) hj' b hb ((hnewF hj' b).1 h)
          · exact fun h => (f4 b hb).1 (.inl (.inr ⟨k', B', c2, c3, (holdF c1 c2 c3 b).1 h⟩))
      · obtain ⟨g1, g2, g3, g4, g5⟩ := hF k B c3
        have hFe := funext fun b => propext (holdF c1 c2 c3 b)
        have hnz : ∀ b, Ft k b → ¬ un K Z' b := fun b hb => by
          rintro (h | h)
          · exact (g4 b hb).1 h
          · rcases hstep.new b h with h2 | h2
            · exact (g4 b hb).1 (hg.zk b h2)
            · exact h2 (.inr ⟨k, B, c2, c3, hb⟩)
        refine ⟨hwide k g1, menB_le hwide g2, ?_, fun b hb => ⟨hnz b ((holdF c1 c2 c3 b).1 hb), Nat.lt_of_lt_of_le (g4 b ((holdF c1 c2 c3 b).1 hb)).2 hstep.ext.size⟩, fun k' B' hne hk' b hb => ?_⟩
        · dsimp only
          rw [hFe, hνold k g1]
          exact sat_nu hνold g2 (sat_mono hst.le (fun b hb => hst.ext.block b (hg.zk b hb)) (fun b hb => hold b (.inr ⟨k, B, c2, c3, hb⟩)) g3)
        · have hb := (holdF c1 c2 c3 b).1 hb
          rcases hcase hk' with ⟨j', B0', rfl, hj', rfl⟩ | ⟨d1, d2, d3⟩
          · exact fun h => ((hFn j' B0' hj').2.2.2.1 b ((hnewF hj' b).1 h)).1 (.inl (.inr ⟨k, B, c2, c3, hb⟩))
          · exact fun h => g5 k' B' hne d3 b hb ((holdF d1 d2 d3 b).1 h)
    · rcases hb with h | h
      · exact Nat.lt_of_lt_of_le (hg.kl b h) hst.ext.size
      · exact hzs b h
    · rw [hg.ds]
      exact fmC fun k hk => by rw [hνold k (hg.ml k hk)]
  refine ⟨Z', νn, _, hst, fun k hk => hνold k (by rw [ltK, Nat.blt_eq]; have := Nat.le_of_ble_eq_true hκ; omega), ?_, next g hq hle⟩
  have := Good.setd hgood hd' hR' (men_renK (men_rhoC hkk hle) hm')
  rw [show CS.st ⟨s.m + (g.m - kk.length), putE dst (ren (rhoC kk s.m) g.val) s.env, outR kk s.m g.rs s.rs, s.ms⟩ = ⟨ltK (s.m + (g.m - kk.length)), lke (putE dst (ren (rhoC kk s.m) g.val) s.env), lkr (outR kk s.m g.rs s.rs), s.ms⟩ from rfl, putE_lke]
  exact this
/-- What a call of yield comes to: the marker of its loop lies under key 0. -/
def YCall (P : Program) (args : List AV) (rin : List (Nat × Option Blk)) (κ : Nat) (Q : GR → Prop) : Prop :=
  ∀ (n : Nat) (K Z : Nat → Prop) (ν : Nat → Value) (w : World) (vals : Array Value) (l : Nat), (∀ k, (ν k).oneCell' = true) → R Z w (mkL args) ν true vals.toList → GoodRs K Z w ν (ltK κ) (lkr rin) → (∀ b, Z b → K b) → (∀ b, K b → b < w.heap.size) → ν 0 = .map (some l) →
    ∃ (f : FuncId) (tmps : Array Value) (assign body : Code), (Instr.yield l vals).run P w = .ok (.round l f tmps assign body) w ∧ RoundIn (FF none) n P l f tmps assign body w fun e w' => ∃ (y : Value) (Z' : Nat → Prop) (ν' : Nat → Value) (g : GR),
      e = .returned y ∧ Step K Z w Z' w' ∧ (∀ k, (ν' k).oneCell' = true) ∧ (∀ k, k < κ → ν' k = ν k) ∧ R Z' w' g.val ν' true [y] ∧ men (ltK g.m) g.val = true ∧ GoodRs (un K Z') Z' w' ν' (ltK g.m) (lkr g.rs) ∧ (∀ b, Z' b → b < w'.heap.size) ∧ Q g ∧ κ ≤ g.m
theorem awpL_yield {o : Oper} {x : Operand} {xs : List Operand} {ts : Array TypeId} {ky m : Nat} {env : List (Nat × AV)} {l : List (Nat × Option Blk)} {ms : List Nat} (kk : List Nat) {args : List AV} {rin : List (Nat × Option Blk)} {Q0 : GR → Prop} {Q : Exit → St → Prop}
    (hS : YCall P args rin kk.length Q0)
    (ho : o.op = .call ⟨.value x, xs.toArray, ts⟩) (hgd : o.guard.isNone = true) (hd : dstOK N [o] = true) (hf : opv (lke env) x = .yld ky) (hky : rhoC kk m 0 = ky)
    (hargs : ofL (opv (lke env)) xs = ren (rhoC kk m) (mkL args)) (hkk : kkOK m kk = true) (hκ : Nat.ble κ m = true)
    (hrin : rinR kk m l rin)
    (next : ∀ gm gv gr, Q0 ⟨gm, gv, gr⟩ → ∀ m' e' l', (m + (gm - kk.length) = m' ∧ putE o.dst (ren (rhoC kk m) gv) env = e' ∧ outR kk m gr l = l') → Q .normal (CS.st ⟨m', e', l', ms⟩)) : awpL P ro N κ [o] (CS.st ⟨m, env, l, ms⟩) Q := by
  intro n K Z ν w a hg
  have hw : Region.wanted o (yielded #[] a.tmps) = true := wanted_none hgd _
  simp only [wpListIn, hw, if_true]
  have hev : ∀ y : Operand, R Z w (opv (lke env) y) ν true [a.eval y] ∧ men (ltK m) (opv (lke env) y) = true := fun y => ⟨opv_R hg y, opv_men hg y⟩
  have rf := (hev x).1
  rw [hf] at rf
  obtain ⟨lp, hlp, ecv⟩ := rf
  have ecv := one1 ecv
  have hargs2 : R Z w (ofL (opv (lke env)) xs) ν true (xs.map a.eval) ∧ men (ltK m) (ofL (opv (lke env)) xs) = true := ofL_ok xs fun y _ => hev y
  have hall := hargs2.1
  rw [hargs] at hall
  have hall := R_ren.1 hall
  have hd' : ∀ d, o.dst = some d → d < N := fun d hd2 => by
    simp [dstOK, hd2] at hd; exact hd
  obtain ⟨Kc, h1, h2, h3, h4⟩ := call_frame (s := ⟨m, env, l, ms⟩) (kk := kk) (Q := Q) hd' hkk hκ (fun j B hj => by
    obtain ⟨h1, h2, h3⟩ := rinR_mem hrin (mem_keysOf hj).2
    rw [Nat.blt_eq] at h1
    exact ⟨h1, h2, h3⟩) (fun g hg hle => next g.m g.val g.rs hg _ _ _ ⟨rfl, rfl, rfl⟩) hg
  obtain ⟨f, tmps, assign, body, hrun, hround⟩ := hS (n - 1) Kc Z (fun j => ν (rhoC kk m j)) w (xs.map a.eval).toArray lp (fun j => hg.one _) (by exact hall) h1 h2 h3 (by show ν (rhoC kk m 0) = _; rw [hky]; exact hlp)
  have hsem : (o.semAt (FF ro).round a.eval).run P w = .ok (.round lp f tmps assign body) w := by
    rw [semAt_plain (by rw [ho]; intro c hc; cases hc)]
    simp [execOp, ho, resolve, ecv, Deferred.ofValue, invoke, hrun, Sem.run_bind, Result.andThen, Sem.run]
  refine ⟨fun f hf => trivial, ?_⟩
  rw [hsem]
  refine ⟨(fun h => by cases h), RoundIn.mono hround ?_⟩
  rintro e w' ⟨y, Z', ν', g, rfl, c1, c2, c3, c4, c5, c6, c7, c8, c9⟩
  exact h4 y w' Z' ν' g c1 c2 c3 c4 c5 c6 c7 c8 c9
end
end Go.Proofs.Ytbcghiagomkadaa.Cal
namespace Go.Proofs.Ytbcghiagomkadaa.Cal
open Go
abbrev SemA := List Value → (Nat → Prop) → World → (Nat → Prop) → Prop
section
variable {P : Program} {ro : Option Nat} {N κ : Nat} {tb : Nat → Option TI}
theorem Good.put {K Z : Nat → Prop} {w : World} {ν : Nat → Value} {σ : St} {a : Act} {r : Nat} {o : Obj} (hg : Good K Z N w ν σ a) (hK : K r) (hZ : ¬ Z r) : Good K Z N (w.putObj r o) ν σ a := by
  have hz : ∀ b, Z b → (w.putObj r o).heap[b]? = w.heap[b]? := fun b hb => World.putObj_heap_other (fun e => hZ (e ▸ hb))
  refine ⟨hg.size, hg.one, fun s => ⟨(hg.env s).1, R_mono (fun _ h => h) hz (hg.env s).2⟩, ?_, hg.zk, fun b hb => by rw [World.putObj_size]; exact hg.kl b hb, hg.ds, hg.ml⟩
  exact hg.rs.mono (fun _ h => h) hz (by rw [World.putObj_size]; exact Nat.le_refl _) (fun _ h => .inl h) (fun b hb _ => World.putObj_heap_other (fun e => hb (e ▸ hK)))
theorem heap_alloc0 (w : World) (o : Obj) (k : Nat) (h : k < w.heap.size) : (w.alloc o).heap[k]? = w.heap[k]? := by
  show (w.heap.push o)[k]? = _
  rw [Array.getElem?_push, if_neg (by omega)]
theorem menE_lke {m : Nat} : ∀ {env : List (Nat × AV)}, menE m env = true → ∀ s, men (ltK m) (lke env s) = true
  | [], _, _ => rfl
  | (k, v) :: t, h, s => by
    simp only [menE, Bool.and_eq_true] at h
    rw [lke_cons]
    split
    · exact h.1
    · exact menE_lke h.2 s
end
end Go.Proofs.Ytbcghiagomkadaa.Cal
namespace Go.Proofs.Ytbcghiagomkadaa.Cal
open Go
/-- What the loop's caller keeps meanwhile. -/
def ASemV (w : World) (Z : Nat → Prop) (ν : Nat → Value) (m lp D : Nat) (rc : Loop) (S : List (Nat × Option Blk)) : SemA := fun vs Zs ws F =>
  vs = [.map (some lp)] ∧ (∀ y, Z y → Zs y ∧ ws.heap[y]? = w.heap[y]?) ∧ F lp ∧ F D ∧ ws.heap[lp]? = some (.loop rc) ∧ ws.heap[D]? = some (.deferred (some [])) ∧
    ∃ (ν' : Nat → Value) (G : Nat → Nat → Prop), (∀ k, (ν' k).oneCell' = true) ∧ (∀ k, k < m → ν' k = ν k) ∧ ∀ k b, lkr S k = some b → sat Zs ws ν' (ν' k) (G k) b ∧ (∀ x, G k x → F x ∧ x ≠ lp ∧ x ≠ D) ∧ ∀ k' b', k ≠ k' → lkr S k' = some b' → ∀ x, G k x → ¬ G k' x
section
variable {w : World} {Z : Nat → Prop} {ν : Nat → Value} {m lp D : Nat} {rc : Loop} {S : List (Nat × Option Blk)}
theorem ASemV_mono {vs : List Value} {Zs Z' : Nat → Prop} {ws w' : World} {F : Nat → Prop} (h : ASemV w Z ν m lp D rc S vs Zs ws F) (hZ : ∀ y, Zs y → Z' y) (hw : ∀ y, Zs y ∨ F y → w'.heap[y]? = ws.heap[y]?) : ASemV w Z ν m lp D rc S vs Z' w' F := by
  obtain ⟨h1, h2, h3, h4, h5, h6, ν', G, h7, h8, h9⟩ := h
  refine ⟨h1, fun y hy => ⟨hZ y (h2 y hy).1, (hw y (.inl (h2 y hy).1)).trans (h2 y hy).2⟩, h3, h4, (hw lp (.inr h3)).trans h5, (hw D (.inr h4)).trans h6, ν', G, h7, h8, fun k b hk => ?_⟩
  obtain ⟨g1, g2, g3⟩ := h9 k b hk
  exact ⟨sat_mono hZ (fun y hy => hw y (.inl hy)) (fun y hy => hw y (.inr (g2 y hy).1)) g1, g2, g3⟩
theorem sat_ASemV {νc : Nat → Value} {a : Nat} {Zs : Nat → Prop} {ws : World} {F : Nat → Prop} {x : Value} (h : ASemV w Z ν m lp D rc S [νc a] Zs ws F) : sat Zs ws νc x F (.sem [a] (ASemV w Z ν m lp D rc S)) :=
  fun Z' w' h1 h2 => ASemV_mono h h1 h2
theorem ASemV_of {νc : Nat → Value} {a : Nat} {Zs : Nat → Prop} {ws : World} {F : Nat → Prop} {x : Value} (h : sat Zs ws νc x F (.sem [a] (ASemV w Z ν m lp D rc S))) : ASemV w Z ν m lp D rc S [νc a] Zs ws F :=
  h Zs ws (fun _ h => h) (fun _ _ => rfl)
end
section
variable {P : Program} {ro : Option Nat} {N κ : Nat} {tb : Nat → Option TI}
/-- How a round leaves the loop. -/
inductive Lv where
  | ret
  | exit (id : Nat)
def Lv.c : Lv → Code
  | .ret => .ret
  | .exit id => .exit id
def Lv.e : Lv → Exit
  | .ret => .ret
  | .exit id => .exit id
def roundV (κ : Nat) {τ : Type} (I X : τ → Prop) (nx : τ → τ → Prop) (lv : Lv) (S : τ → List (Nat × Option Blk)) (M : Nat) (t : τ) (e : Exit) (s : St) : Prop :=
  ∃ (cs : CS) (t' : τ) (ρ : List (Nat × Nat)), s = cs.st ∧ LeC κ cs ρ ⟨M, [], S t', []⟩ ∧ ((e = .normal ∧ I t' ∧ nx t t') ∨ (e = lv.e ∧ X t'))
def rcEnd (rc : Loop) (lv : Lv) : Bool → Loop
  | true => rc
  | false => { rc with state := .done, pending := some lv.c }
theorem cases1 {k : Nat} {b b1 : Blk} (hk : lkr [(1, some b1)] k = some b) : k = 1 ∧ b = b1 := by
  rw [lkr_cons] at hk
  by_cases h1 : k = 1
  · rw [if_pos h1] at hk; exact ⟨h1, (Option.some.inj hk).symm⟩
  · rw [if_neg h1] at hk; cases hk
end
end Go.Proofs.Ytbcghiagomkadaa.Cal
