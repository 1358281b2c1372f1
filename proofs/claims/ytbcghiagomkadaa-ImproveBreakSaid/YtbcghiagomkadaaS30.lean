/- Own texts of the proof, merged, in order. -/
import Derived.RecoverIn
import Derived.RangeFuncLeaves
import Derived.Test.YtbcghiagomkadaaS29
set_option linter.unusedVariables false
set_option linter.unusedSimpArgs false
namespace Go.Proofs.Ytbcghiagomkadaa.Cal
open Go
section
variable {P : Program} {ro : Option Nat} {N κ : Nat} {tb : Nat → Option TI}
theorem Good.key {K Z : Nat → Prop} {w : World} {ν : Nat → Value} {m : Nat} {env : List (Nat × AV)} {l : List (Nat × Option Blk)} {a : Act} {v : Value} {b : Option Blk} {ds : List Deferred} (hg : Good K Z N w ν (CS.st ⟨m, env, l, []⟩) a) (hv : v.oneCell' = true)
    (hb : ∀ B, b = some B → menB (ltK (m + 1)) B ∧ ∀ ν' : Nat → Value, ν' m = v → (∀ k, k < m → ν' k = ν k) → sat Z w ν' v (fun _ => False) B) (hd : markOf v = ds) :
    Good K Z N w (fun k => if k = m then v else ν k) (CS.st ⟨m + 1, env, (m, b) :: l, [m]⟩) { a with defers := ds } := by
  have hwide : ∀ k, ltK m k = true → ltK (m + 1) k = true := fun k hk => by simp only [ltK, Nat.blt_eq] at hk ⊢; omega
  have hν : ∀ k, ltK m k = true → (fun k => if k = m then v else ν k) k = ν k := fun k hk => by
    simp only [ltK, Nat.blt_eq] at hk
    exact if_neg (by omega)
  refine ⟨hg.size, fun k => ?_, fun s => ⟨Zc2 hwide (hg.env s).1, R_nu hν (hg.env s).1 (hg.env s).2⟩, ?_, hg.zk, hg.kl, ?_, fun k hk => ?_⟩
  · show (if k = m then v else ν k : Value).oneCell' = true
    split
    · exact hv
    · exact hg.one k
  · obtain ⟨Ft, hF⟩ := hg.rs
    have hlt : ∀ k B, lkr l k = some B → k < m := fun k B hk => by
      have h := (hF k B hk).1
      have h : ltK m k = true := h
      simpa only [ltK, Nat.blt_eq] using h
    have hl : ∀ k, lkr ((m, b) :: l) k = if k = m then b else lkr l k := fun k => by
      unfold lkr
      simp only [lko]
      by_cases e : k = m
      · subst e; rw [Nat.beq_refl, if_pos rfl]
      · rw [beqN e, if_neg e]
    refine ⟨fun k x => k ≠ m ∧ Ft k x, fun k B hk => ?_⟩
    show ltK (m + 1) k = true ∧ _
    have hk : lkr ((m, b) :: l) k = some B := hk
    rw [hl] at hk
    by_cases e : k = m
    · subst e
      rw [if_pos rfl] at hk
      obtain ⟨b1, b2⟩ := hb B hk
      have hFe : (fun x => k ≠ k ∧ Ft k x) = fun _ => False := funext fun x => propext ⟨fun h => h.1 rfl, False.elim⟩
      refine ⟨by simp only [ltK, Nat.blt_eq]; omega, b1, ?_, fun x hx => absurd rfl hx.1, fun k' B' hne hk' x hx => absurd rfl hx.1⟩
      dsimp only
      rw [hFe, if_pos rfl]
      exact b2 _ (if_pos rfl) fun j hj => if_neg (by omega)
    · rw [if_neg e] at hk
      obtain ⟨g1, g2, g3, g4, g5⟩ := hF k B hk
      have hFe : (fun x => k ≠ m ∧ Ft k x) = Ft k := funext fun x => propext ⟨fun h => h.2, fun h => ⟨e, h⟩⟩
      refine ⟨hwide k g1, Zcu hwide g2, ?_, fun x hx => g4 x hx.2, fun k' B' hne hk' x hx hx' => ?_⟩
      · dsimp only
        rw [hFe, if_neg e]
        exact Zdi (fun j hj => hν j hj) g2 g3
      · have hk' : lkr ((m, b) :: l) k' = some B' := hk'
        rw [hl, if_neg hx'.1] at hk'
        exact g5 k' B' hne hk' x hx.2 hx'.2
  · show ds = [m].flatMap _
    simp [hd]
  · rw [List.mem_singleton.1 hk]
    show Nat.blt m (m + 1) = true
    rw [Nat.blt_eq]; omega
end
end Go.Proofs.Ytbcghiagomkadaa.Cal
namespace Go.Proofs.Ytbcghiagomkadaa.Cal
open Go
section
variable {P : Program} {ro : Option Nat} {N κ : Nat} {tb : Nat → Option TI} {sp : Nat → Option Spec} {ops : Array Oper}
/-- What the rest of such a region comes to, from its operation k on. -/
def awpD (P : Program) (ro : Option Nat) (N κ : Nat) (ops : Array Oper) (k : Nat) (σ : St) (Q : Exit → St → Prop) : Prop :=
  ∀ n K Z ν w a, Good K Z N w ν σ a → ∀ (fuel : Nat) (listed : Array Bool), listed.size = ops.size → (∀ i, i < k → listed.getD i true = true) → (∀ i, k ≤ i → i < ops.size → listed.getD i true = false) → ops.size - k ≤ fuel →
    wpAnyIn (FF ro) n P .any ops (Post N κ K Z w ν Q) fuel listed a w
def ancOK (ops : List Oper) : Bool :=
  let A := ancs ops []
  (List.range ops.length).all fun i =>
    ((A.getD i []).all fun j => match ops[i]? with | some o => (predsOf o).any (fun p => Nat.beq p j || ((A.getD p []).any fun q => Nat.beq q j)) && Nat.blt j i | none => false) &&
    (match ops[i]? with | some o => (predsOf o).all fun p => Nat.blt p i | none => false)
def segOK (ops : List Oper) (k n : Nat) (l : List Item) : Bool :=
  let A := ancs ops []
  ((List.range n).all fun i => (List.range i).all fun j => ((A.getD (k + i) []).any fun q => Nat.beq q (k + j)) || apartB (itemAt l j) (itemAt l i)) &&
  ((List.range (ops.length - (k + n))).all fun i => (List.range n).all fun j => (A.getD (k + n + i) []).any fun q => Nat.beq q (k + j))
structure AncOK (ops : Array Oper) : Prop where
  up : ∀ i, i < ops.size → ∀ o, ops[i]? = some o → (∀ j, j ∈ (ancs ops.toList []).getD i [] → (∃ p, p ∈ predsOf o ∧ (p = j ∨ j ∈ (ancs ops.toList []).getD p [])) ∧ j < i) ∧ (∀ p, p ∈ predsOf o → p < i)
theorem anc_ok (hc : ancOK ops.toList = true) : AncOK ops := by
  refine ⟨fun i hi o ho => ?_⟩
  simp only [ancOK, List.all_eq_true, List.mem_range, Bool.and_eq_true, Array.length_toList] at hc
  obtain ⟨h1, h2⟩ := hc i hi
  have ho' : ops.toList[i]? = some o := by simpa using ho
  rw [ho'] at h1 h2
  simp only [List.all_eq_true, Nat.blt_eq] at h2
  refine ⟨fun j hj => ?_, h2⟩
  have := h1 j hj
  simp only [Bool.and_eq_true, List.any_eq_true, Bool.or_eq_true, Nat.blt_eq] at this
  obtain ⟨⟨p, hp, hpj⟩, hlt⟩ := this
  refine ⟨⟨p, hp, ?_⟩, hlt⟩
  rcases hpj with h | ⟨q, hq, h⟩
  · exact .inl (Nat.eq_of_beq_eq_true h)
  · exact .inr (Nat.eq_of_beq_eq_true h ▸ hq)
def Closed (ops : Array Oper) (listed : Array Bool) : Prop := ∀ i o, ops[i]? = some o → listed.getD i true = true → ∀ p, p ∈ predsOf o → listed.getD p true = true
theorem Zdh (hA : AncOK ops) {listed : Array Bool} (hcl : Closed ops listed) : ∀ i, i < ops.size → ∀ o, ops[i]? = some o → (∀ p, p ∈ predsOf o → listed.getD p true = true) → ∀ j, j ∈ (ancs ops.toList []).getD i [] → listed.getD j true = true := by
  intro i
  induction i using Nat.strongRecOn with
  | _ i ih =>
    intro hi o ho hp j hj
    obtain ⟨⟨p, hpm, hpj⟩, hlt⟩ := (hA.up i hi o ho).1 j hj
    rcases hpj with rfl | hpj
    · exact hp p hpm
    · have hpi := (hA.up i hi o ho).2 p hpm
      have hps : p < ops.size := by omega
      exact ih p hpi hps ops[p] (Array.getElem?_eq_getElem hps) (hcl p _ (Array.getElem?_eq_getElem hps) (hp p hpm)) j hpj
theorem Zct {listed : Array Bool} {i : Nat} (hi : i ∈ Region.ready .any ops listed) : i < ops.size ∧ listed.getD i true = false ∧ ∀ o, ops[i]? = some o → ∀ p, p ∈ predsOf o → listed.getD p true = true := by
  simp only [Region.ready, List.mem_filter, List.mem_range, Bool.and_eq_true, Bool.not_eq_true'] at hi
  obtain ⟨h1, h2, h3⟩ := hi
  refine ⟨h1, h2, fun o ho p hp => ?_⟩
  rw [ho] at h3
  simp only [Option.map_some, Option.getD_some] at h3
  simp only [predsOf, List.mem_map, List.mem_filter] at hp
  obtain ⟨e, ⟨he, hb⟩, rfl⟩ := hp
  have := (Array.all_eq_true_iff_forall_mem.1 h3) e (by simpa using he)
  rw [hb] at this
  simp only [Bool.not_true, Bool.false_or] at this
  cases hg : listed[e.on]? with
  | none => simp [Array.getD_eq_getD_getElem?, hg]
  | some x => simp [Array.getD_eq_getD_getElem?, hg] at this ⊢; exact this
theorem Zf9 {listed : Array Bool} {i : Nat} {o : Oper} (ho : ops[i]? = some o) (hl : listed.getD i true = false) (hp : ∀ p, p ∈ predsOf o → p < listed.size ∧ listed.getD p true = true) : i ∈ Region.ready .any ops listed := by
  have hi : i < ops.size := (Array.getElem?_eq_some_iff.1 ho).1
  simp only [Region.ready, List.mem_filter, List.mem_range, Bool.and_eq_true, Bool.not_eq_true']
  refine ⟨hi, hl, ?_⟩
  rw [ho]
  simp only [Option.map_some, Option.getD_some]
  refine Array.all_eq_true_iff_forall_mem.2 fun e he => ?_
  cases hb : Region.binds .any e with
  | false => rfl
  | true =>
    obtain ⟨h1, h2⟩ := hp e.on (List.mem_map.2 ⟨e, List.mem_filter.2 ⟨by simpa using he, hb⟩, rfl⟩)
    simp [Array.getD_eq_getD_getElem?, Array.getElem?_eq_getElem h1] at h2 ⊢
    exact h2
theorem Zdk {listed : Array Bool} {i j : Nat} (hi : i < listed.size) : ((listed.setIfInBounds i true).getD j true = true ↔ (j = i ∨ listed.getD j true = true)) := by
  simp only [Array.getD_eq_getD_getElem?, Array.getElem?_setIfInBounds]
  by_cases h : i = j
  · subst h; simp [hi]
  · simp [h, Ne.symm h]
theorem set_getF {listed : Array Bool} {i j : Nat} (hi : i < listed.size) : ((listed.setIfInBounds i true).getD j true = false ↔ (j ≠ i ∧ listed.getD j true = false)) := by
  have := Zdk (j := j) hi
  cases h : (listed.setIfInBounds i true).getD j true with
  | true =>
    simp only [h, true_iff] at this
    refine ⟨fun hh => (by cases hh), fun hh => ?_⟩
    rcases this with e | e
    · exact absurd e hh.1
    · rw [e] at hh; exact absurd hh.2 (by simp)
  | false =>
    rw [h] at this
    simp only [Bool.false_eq_true, false_iff, not_or] at this
    exact ⟨fun _ => ⟨this.1, by cases hx : listed.getD j true with | false => rfl | true => exact absurd hx this.2⟩, fun _ => rfl⟩
theorem run_seg {Q : Exit → St → Prop} {σ' : St} (k n' : Nat) (hkn : k + n' ≤ ops.size) (l : List Item) (hA : ancOK ops.toList = true) (hc : segOK ops.toList k n' l = true) (hop : ∀ i, i < n' → ∃ o, ops[k + i]? = some o ∧ OpRun P ro N ops o (itemAt l i)) (hend : awpD P ro N κ ops (k + n') σ' Q) :
    ∀ (fuel : Nat) (listed : Array Bool) (L : List Nat) (σ : St), listed.size = ops.size → L.length + (ops.size - (k + n')) ≤ fuel → (∀ i, i ∈ L ↔ (k ≤ i ∧ i < k + n') ∧ listed.getD i true = false) → (∀ i, i < k → listed.getD i true = true) → (∀ i, k + n' ≤ i → i < ops.size → listed.getD i true = false) → L.Pairwise (· < ·) →
      Closed ops listed → Holds κ σ → runsTo N (fun x => itemAt l (x - k)) L σ σ' → ∀ n K Z ν w a, Good K Z N w ν σ a → wpAnyIn (FF ro) n P .any ops (Post N κ K Z w ν Q) fuel listed a w := by
  have hA := anc_ok hA
  simp only [segOK, Bool.and_eq_true, List.all_eq_true, List.mem_range, Bool.or_eq_true, List.any_eq_true, Array.length_toList] at hc
  obtain ⟨hc1, hc2⟩ := hc
  have hap0 : ∀ i j, k ≤ j → j < i → i < k + n' → j ∈ (ancs ops.toList []).getD i [] ∨ Apart (itemAt l (j - k)) (itemAt l (i - k)) := by
    intro i j h1 h2 h3
    have := hc1 (i - k) (by omega) (j - k) (by omega)
    rw [show k + (i - k) = i from by omega, show k + (j - k) = j from by omega] at this
    rcases this with ⟨q, hq, h⟩ | h
    · exact .inl (Nat.eq_of_beq_eq_true h ▸ hq)
    · exact .inr (apart_of h)
  have hlate : ∀ i j, k ≤ j → j < k + n' → k + n' ≤ i → i < ops.size → j ∈ (ancs ops.toList []).getD i [] := by
    intro i j h1 h2 h3 h4
    obtain ⟨q, hq, h⟩ := hc2 (i - (k + n')) (by omega) (j - k) (by omega)
    rw [show k + n' + (i - (k + n')) = i from by omega] at hq
    rw [show k + (j - k) = j from by omega] at h
    exact Nat.eq_of_beq_eq_true h ▸ hq
  intro fuel
  induction fuel with
  | zero =>
    intro listed L σ hsz hlen hL hlo hhi hpw hcl hh hr n K Z ν w a hg
    obtain rfl : L = [] := List.eq_nil_of_length_eq_zero (by omega)
    obtain rfl : σ = σ' := hr
    refine hend n K Z ν w a hg 0 listed hsz (fun i hi => ?_) hhi (by simpa using hlen)
    by_cases hik : i < k
    · exact hlo i hik
    · cases h : listed.getD i true with
      | true => rfl
      | false => exact absurd ((hL i).2 ⟨⟨by omega, hi⟩, h⟩) (by simp)
  | succ fuel ih =>
    intro listed L σ hsz hlen hL hlo hhi hpw hcl hh hr n K Z ν w a hg
    cases hLe : L with
    | nil =>
      subst hLe
      obtain rfl : σ = σ' := hr
      refine hend n K Z ν w a hg _ listed hsz (fun i hi => ?_) hhi (by simpa using hlen)
      by_cases hik : i < k
      · exact hlo i hik
      · cases h : listed.getD i true with
        | true => rfl
        | false => exact absurd ((hL i).2 ⟨⟨by omega, hi⟩, h⟩) (by simp)
    | cons i0 L0 =>
    refine ⟨fun hnil => ?_, fun i hi => ?_⟩
    · exfalso
      rw [hLe] at hL hpw
      obtain ⟨⟨hi1, hi2⟩, hl⟩ := (hL i0).1 List.mem_cons_self
      have hs : i0 < ops.size := by omega
      have : i0 ∈ Region.ready .any ops listed := Zf9 (Array.getElem?_eq_getElem hs) hl fun p hp => by
        have hpi := (hA.up i0 hs _ (Array.getElem?_eq_getElem hs)).2 p hp
        refine ⟨by omega, ?_⟩
        cases hpl : listed.getD p true with
        | true => rfl
        | false =>
          by_cases hpk : p < k
          · rw [hlo p hpk] at hpl; cases hpl
          have hmem := (hL p).2 ⟨⟨by omega, by omega⟩, hpl⟩
          rcases List.mem_cons.1 hmem with rfl | hmem
          · omega
          · have := List.rel_of_pairwise_cons hpw hmem; omega
      rw [hnil] at this
      cases this
    · obtain ⟨h1, h2, h3⟩ := Zct hi
      have hik : k ≤ i := by
        rcases Nat.lt_or_ge i k with h | h
        · rw [hlo i h] at h2; cases h2
        · exact h
      have hin : i < k + n' := by
        rcases Nat.lt_or_ge i (k + n') with h | h
        · exact h
        · exfalso
          rw [hLe] at hL
          obtain ⟨⟨b1, b2⟩, b3⟩ := (hL i0).1 List.mem_cons_self
          have := Zdh hA hcl i h1 _ (Array.getElem?_eq_getElem h1) (h3 _ (Array.getElem?_eq_getElem h1)) i0 (hlate i i0 b1 b2 h h1)
          rw [this] at b3; cases b3
      obtain ⟨o, ho, hrun⟩ := hop (i - k) (by omega)
      rw [show k + (i - k) = i from by omega] at ho
      have hiL := (hL i).2 ⟨⟨hik, hin⟩, h2⟩
      clear hLe
      obtain ⟨A, B, rfl⟩ := List.append_of_mem hiL
      have hA1 : ∀ j, j ∈ A → j < i := fun j hj => by
        rw [List.pairwise_append] at hpw
        exact hpw.2.2 j hj i List.mem_cons_self
      have hap : ∀ j, j ∈ A → Apart (itemAt l (j - k)) (itemAt l (i - k)) := by
        intro j hj
        have hjL := (hL j).1 (List.mem_append_left _ hj)
        rcases hap0 i j hjL.1.1 (hA1 j hj) hin with h | h
        · have hd := Zdh hA hcl i h1 o ho (h3 o ho) j h
          rw [hd] at hjL
          cases hjL.2
        · exact h
      obtain ⟨f1, r1⟩ := pull_front A σ σ' hap hr
      unfold wpOpIn
      simp only [ho]
      refine hrun n K Z ν w a σ hg f1 _ _ ?_
      intro Z1 ν1 w1 a1 hs hν hg1
      have hi2 : i < listed.size := by omega
      have hnd : i ∉ A ∧ i ∉ B := by
        have hne : (A ++ i :: B).Pairwise (· ≠ ·) := hpw.imp fun h => Nat.ne_of_lt h
        rw [List.pairwise_append] at hne
        exact ⟨fun h => hne.2.2 i h i List.mem_cons_self rfl, fun h => List.rel_of_pairwise_cons hne.2.1 h rfl⟩
      have := ih (listed.setIfInBounds i true) (A ++ B) _ (by simpa using hsz) (by simp at hlen ⊢; omega) (fun j => ?_) (fun j hj => (Zdk hi2).2 (.inr (hlo j hj))) (fun j hj1 hj2 => (set_getF hi2).2 ⟨by omega, hhi j hj1 hj2⟩) ?_ ?_ (Zfp hh) r1 n _ _ ν1 w1 a1 hg1
      · exact run_any.wpAnyIn_mono' this fun e a' w' hp => hp.trans hs (fun k hk => hν k (hh k hk))
      · rw [set_getF hi2]
        constructor
        · intro hj
          have hj' : j ∈ A ++ i :: B := by
            rcases List.mem_append.1 hj with h | h
            · exact List.mem_append_left _ h
            · exact List.mem_append_right _ (List.mem_cons_of_mem _ h)
          obtain ⟨q1, q2⟩ := (hL j).1 hj'
          refine ⟨q1, ?_, q2⟩
          rintro rfl
          rcases List.mem_append.1 hj with h | h
          · exact hnd.1 h
          · exact hnd.2 h
        · rintro ⟨q1, q2, q3⟩
          have := (hL j).2 ⟨q1, q3⟩
          rcases List.mem_append.1 this with h | h
          · exact List.mem_append_left _ h
          · rcases List.mem_cons.1 h with h | h
            · exact absurd h q2
            · exact List.mem_append_right _ h
      · exact hpw.sublist (List.Sublist.append (List.Sublist.refl A) (List.sublist_cons_self i B))
      · intro j oj hoj hlj p hp
        rw [Zdk hi2]
        rcases (Zdk hi2).1 hlj with rfl | h
        · exact .inr (h3 oj hoj p hp)
        · exact .inr (hcl j oj hoj h p hp)
theorem closed_of {k : Nat} {listed : Array Bool} (hA : AncOK ops) (h1 : ∀ i, i < k → listed.getD i true = true) (h2 : ∀ i, k ≤ i → i < ops.size → listed.getD i true = false) : Closed ops listed := by
  intro i o ho hl p hp
  have hi : i < ops.size := (Array.getElem?_eq_some_iff.1 ho).1
  have hik : i < k := by
    rcases Nat.lt_or_ge i k with h | h
    · exact h
    · rw [h2 i h hi] at hl; cases hl
  exact h1 p (Nat.lt_trans ((hA.up i hi o ho).2 p hp) hik)
theorem awpD_end {k : Nat} {σ : St} {Q : Exit → St → Prop} (hk : Nat.beq k ops.size = true) (h : Q .normal σ) : awpD P ro N κ ops k σ Q := by
  obtain rfl := Nat.eq_of_beq_eq_true hk
  intro n K Z ν w a hg fuel listed hsz hlo hhi hfuel
  have hn : Region.ready .any ops listed = [] := by
    refine List.eq_nil_iff_forall_not_mem.2 fun i hi => ?_
    obtain ⟨h1, h2, _⟩ := Zct hi
    rw [hlo i h1] at h2; cases h2
  cases fuel with
  | zero => exact ⟨hn, Zcc hg h⟩
  | succ fuel => exact ⟨fun _ => Zcc hg h, fun i hi => by rw [hn] at hi; cases hi⟩
theorem awp_drawD (hmo : P.follows .mixedOrders = true) {id : Nat} {σ : St} {Q : Exit → St → Prop} (h : awpD P ro N κ ops 0 σ Q) : awp P ro N κ (.region id ops true) σ Q := by
  intro n K Z ν w a hg
  refine wpIn_region_any hmo ?_
  have hstep : Step K Z w Z { w with drawn := w.drawn + 1 } := ⟨⟨rfl, rfl, rfl, Nat.le_refl _, fun _ _ => rfl⟩, fun _ h => h, fun _ h => .inl h⟩
  have hg1 := hg.drew (w.drawn + 1)
  refine run_any.wpAnyIn_mono' (h n K Z ν _ a hg1 ops.size (Array.replicate ops.size false) (by simp) (fun i hi => absurd hi (by omega)) (fun i _ hi => by simp [Array.getD_eq_getD_getElem?, Array.getElem?_replicate, hi]) (by omega)) fun e a' w' hp => ?_
  have e := Post.trans (N := N) (κ := κ) (K := K) (Z := Z) (w := w) (ν := ν) hstep (fun _ _ => rfl) (by rw [Zbq hg.zk]; exact hp)
  exact e
end
end Go.Proofs.Ytbcghiagomkadaa.Cal
namespace Go.Proofs.Ytbcghiagomkadaa.Cal
open Go
section
variable {P : Program} {ro : Option Nat} {N κ : Nat} {tb : Nat → Option TI} {sp : Nat → Option Spec}
/-- A call that gives back what it was lent, as an item. -/
theorem oprun_fg {ops : Array Oper} {o : Oper} {xs : List Operand} {ts : Array TypeId} {f kx : Nat} {args : List AV} {B : Blk} {v : AV} {ins : List (Nat × AV)}
    (hS : FG P f args [(0, some B)] 1 fun g => g = ⟨1, v, [(0, some B)]⟩)
    (ho : o.op = .call ⟨.value (.func f), xs.toArray, ts⟩) (hgd : o.guard.isNone = true)
    (hin : ∀ env : Env, (∀ p, p ∈ ins → env p.1 = p.2) → ofL (opv env) xs = ren (fun _ => kx) (mkL args))
    (hmen : men (ltK 1) (mkL args) = true) (hB : renB (fun _ => kx) B = B) (hBm : ∀ μ, menB μ B) (hv : men noK v = true) : OpRun P ro N ops o ⟨o.dst, ins, v, [(kx, B)], [], none⟩ := by
  intro n K Z ν w a σ hg hft next Q hnext
  rw [if_pos (Zb7 hgd _)]
  obtain ⟨⟨fn, hfn, hname, hbody⟩, hS⟩ := hS
  have henv := hin σ.env hft.ins
  have hk : σ.rs kx = some B := hft.rd (kx, B) (List.mem_singleton.2 rfl)
  have hargs2 : R Z w (ofL (opv σ.env) xs) ν true (xs.map a.eval) ∧ men σ.mu (ofL (opv σ.env) xs) = true := Zft xs fun y _ => ⟨Zg5 hg y, Zfi hg y⟩
  rw [henv] at hargs2
  have hall := R_ren.1 hargs2.1
  obtain ⟨Ft, hF⟩ := id hg.rs
  have h0 : ∀ j B', lkr [(0, some B)] j = some B' → j = 0 ∧ B' = B := fun j B' hj => by
    rw [Zax] at hj
    split at hj
    · rename_i e; exact ⟨e, (Option.some.inj hj).symm⟩
    · cases hj
  obtain ⟨g1, g2, g3, g4, g5⟩ := hF _ _ hk
  let Kc : Nat → Prop := fun b => K b ∨ ∃ k B', k ≠ kx ∧ σ.rs k = some B' ∧ Ft k b
  have hKc : ∀ b, Kc b → b < w.heap.size := fun b hb => hb.elim (hg.kl b) fun ⟨k, B', _, hk, hb⟩ => ((hF k B' hk).2.2.2.1 b hb).2
  have hcall := hS Kc Z (fun _ => ν kx) w (xs.map a.eval).toArray (fun j => hg.one _) (by exact hall) hmen
    ⟨fun j => Ft kx, fun j B' hj => by
      obtain ⟨rfl, rfl⟩ := h0 j B' hj
      refine ⟨rfl, hBm _, ?_, fun b hb => ⟨?_, (g4 b hb).2⟩, fun j' B2 hne hj' => ?_⟩
      · rw [← hB] at g3
        exact sat_ren.1 g3
      · rintro (h | ⟨k, B2, hne, hkr, h⟩)
        · exact (g4 b hb).1 h
        · exact g5 k B2 (fun e => hne e.symm) hkr b hb h
      · exact absurd (h0 j' B2 hj').1.symm hne⟩
    (fun b hb => .inl (hg.zk b hb)) hKc
  have hsem : (o.semAt (FF ro).round a.eval).run P w = .ok (.enter f (xs.map a.eval).toArray) w := by
    rw [Zb9 (by rw [ho]; intro c hc; cases hc)]
    have ecv : a.eval (.func f) = .func (.func f) #[] #[] := rfl
    simp [execOp, ho, resolve, ecv, Deferred.ofValue, invoke, callFunc, hfn, Sem.run_bind, Result.andThen, Sem.run, program]
    have hname' : ¬ fn.name = "runtime.NumGoroutine" := by simpa using hname
    cases hb : fn.body with
    | none => rw [hb] at hbody; cases hbody
    | some c => simp [hname', hb, Sem.run]
  refine ⟨fun f hf => trivial, ?_⟩
  rw [hsem]
  refine ⟨(fun h => by cases h), CallsIn.mono (Zcp hcall) ?_⟩
  rintro e w' ⟨y, Z', ν', v', μ', rs', rfl, hstep, h1', hν, _, hr', hm', ⟨Fn, hFn⟩, hzs, g, rfl, rfl, rfl, hle, rfl⟩
  have hold : ∀ b, Kc b → w'.heap[b]? = w.heap[b]? := hstep.ext.block
  have hst : Step K Z w Z' w' := ⟨⟨hstep.ext.os, hstep.ext.tape, hstep.ext.output, hstep.ext.size, fun b hb => hold b (.inl hb)⟩, hstep.le, fun b hb => (hstep.new b hb).imp id fun h hk => h (.inl hk)⟩
  refine hnext Z' ν w' _ hst (fun _ _ => rfl) ?_
  have hgood : Good (un K Z') Z' N w' ν σ a := by
    refine ⟨hg.size, hg.one, fun t => ⟨(hg.env t).1, Zbk hst.le (fun b hb => hst.ext.block b (hg.zk b hb)) (hg.env t).2⟩, ?_, fun b hb => .inr hb, fun b hb => ?_, hg.ds, hg.ml⟩
    · obtain ⟨f1, f2, f3, f4, f5⟩ := hFn 0 B (by rw [Zax, if_pos rfl])
      have hnu0 : ν' 0 = ν kx := hν 0 (by decide)
      refine ⟨fun k b => if k = kx then Fn 0 b else Ft k b, fun k B' hk' => ?_⟩
      by_cases e : k = kx
      · subst e
        rw [hk] at hk'
        cases hk'
        have hFe : (fun b => if k = k then Fn 0 b else Ft k b) = Fn 0 := funext fun b => if_pos rfl
        refine ⟨g1, g2, ?_, fun b hb => ?_, fun k2 B2 hne hk2 b hb => ?_⟩
        · dsimp only
          rw [hFe, ← hnu0]
          exact Zdi (μ := noK) (fun k hk => by cases hk) (hBm _) f3
        · dsimp only at hb
          rw [if_pos rfl] at hb
          refine ⟨?_, (f4 b hb).2⟩
          rintro (h | h)
          · exact (f4 b hb).1 (.inl (.inl h))
          · exact (f4 b hb).1 (.inr h)
        · dsimp only at hb ⊢
          rw [if_pos rfl] at hb
          rw [if_neg (fun e => hne e.symm)]
          exact fun h => (f4 b hb).1 (.inl (.inr ⟨k2, B2, fun e => hne e.symm, hk2, h⟩))
      · obtain ⟨q1, q2, q3, q4, q5⟩ := hF k B' hk'
        have hFe : (fun b => if k = kx then Fn 0 b else Ft k b) = Ft k := funext fun b => if_neg e
        have hnz : ∀ b, Ft k b → ¬ un K Z' b := fun b hb => by
          rintro (h | h)
          · exact (q4 b hb).1 h
          · rcases hstep.new b h with h2 | h2
            · exact (q4 b hb).1 (hg.zk b h2)
            · exact h2 (.inr ⟨k, B', e, hk', hb⟩)
        refine ⟨q1, q2, ?_, fun b hb => ?_, fun k2 B2 hne hk2 b hb => ?_⟩
        · dsimp only
          rw [hFe]
          exact Zbo hst.le (fun b hb => hst.ext.block b (hg.zk b hb)) (fun b hb => hold b (.inr ⟨k, B', e, hk', hb⟩)) q3
        · dsimp only at hb
          rw [if_neg e] at hb
          exact ⟨hnz b hb, Nat.lt_of_lt_of_le (q4 b hb).2 hstep.ext.size⟩
        · dsimp only at hb ⊢
          rw [if_neg e] at hb
          by_cases e2 : k2 = kx
          · rw [if_pos e2]
            exact fun h => (f4 b h).1 (.inl (.inr ⟨k, B', e, hk', hb⟩))
          · rw [if_neg e2]
            exact q5 k2 B2 hne hk2 b hb
    · rcases hb with h | h
      · exact Nat.lt_of_lt_of_le (hg.kl b h) hst.ext.size
      · exact hzs b h
  exact Good.setd hgood hft.dst (R_nu (μ := noK) (fun k hk => by cases hk) hv hr') (Zbr hv)
theorem runsTo_ap {its : Nat → Item} {B : List Nat} {s1 s' : St} : ∀ {A : List Nat} {s : St}, runsTo N its A s s1 → runsTo N its B s1 s' → runsTo N its (A ++ B) s s'
  | [], s, h, h2 => by
    obtain rfl : s = s1 := h
    exact h2
  | a :: A, s, h, h2 => ⟨h.1, runsTo_ap (A := A) h.2 h2⟩
theorem Zfe {its its' : Nat → Item} {s' : St} : ∀ {L : List Nat} {s : St}, (∀ i, i ∈ L → its i = its' i) → runsTo N its L s s' → runsTo N its' L s s'
  | [], _, _, h => h
  | a :: L, s, he, h => by
    have ha := he a List.mem_cons_self
    refine ⟨ha ▸ h.1, ?_⟩
    rw [← ha]
    exact Zfe (L := L) (fun i hi => he i (List.mem_cons_of_mem _ hi)) h.2
/-- A region that draws its order, with one call that lends one block, and operations that do not meet it. -/
theorem awp_callmid (hmo : P.follows .mixedOrders = true) (htb : TabOK P tb) (hmz : ∀ t i, tb t = some i → men noK i.zero = true) (hsp : SpOK P sp) (ch : Nat → Bool) {id m : Nat} {all : List Oper} {ops : Array Oper} (os1 : List Oper) {o : Oper} (os2 : List Oper) {xs : List Operand} {ts : Array TypeId} {f : Nat} (kx : Nat) {args : List AV} {B : Blk} {v : AV} (ins : List (Nat × AV))
    {env : List (Nat × AV)} {l : List (Nat × Option Blk)} {ms : List Nat} {Q : Exit → St → Prop}
    (hops : ops = all.toArray) (hall : all = os1 ++ o :: os2) (hN1 : dstOK N os1 = true) (hNo : dstOK N [o] = true) (hN2 : dstOK N os2 = true) (hκ : Nat.ble κ m = true)
    (hS : FG P f args [(0, some B)] 1 fun g => g = ⟨1, v, [(0, some B)]⟩)
    (ho : o.op = .call ⟨.value (.func f), xs.toArray, ts⟩) (hgd : o.guard.isNone = true)
    (hin : ∀ env : Env, (∀ p, p ∈ ins → env p.1 = p.2) → ofL (opv env) xs = ren (fun _ => kx) (mkL args))
    (hmen : men (ltK 1) (mkL args) = true) (hB : renB (fun _ => kx) B = B) (hBm : ∀ μ, menB μ B) (hv : men noK v = true) (hA : ancOK all = true)
    (hd : segOK all 0 all.length ((evOps tb sp ch m all os1 0 env l).its ++ ⟨o.dst, ins, v, [(kx, B)], [], none⟩ :: (evOps tb sp ch m all os2 (os1.length + 1) (putE o.dst v (evOps tb sp ch m all os1 0 env l).env) (evOps tb sp ch m all os1 0 env l).l).its) = true)
    (h : ∀ m1 e1 l1 ob1, evOut tb sp ch m all os1 0 ⟨m, env, l, True⟩ = ⟨m1, e1, l1, ob1⟩ → Ob ob1 ∧ ((∀ p, p ∈ ins → lke e1 p.1 = p.2) ∧ lkr l1 kx = some B) ∧
      ∀ m2 e2 l2 ob2, evOut tb sp ch m all os2 (os1.length + 1) ⟨m1 + 1, putE o.dst v e1, l1, True⟩ = ⟨m2, e2, l2, ob2⟩ → Ob ob2 ∧ Q .normal (CS.st ⟨m2, e2, l2, ms⟩)) : awp P ro N κ (.region id ops true) (CS.st ⟨m, env, l, ms⟩) Q := by
  subst hops
  obtain ⟨hob1, ⟨hr1, hr2⟩, hrest⟩ := h _ _ _ _ rfl
  obtain ⟨h1, h2, h3, h4⟩ := Zem ch m all os1 0 m env l True hob1
  rw [h1] at hr1 hrest
  rw [h2] at hr2 hrest
  rw [h4] at hrest
  obtain ⟨hob2, hq⟩ := hrest _ _ _ _ rfl
  obtain ⟨p1, p2, p3, p4⟩ := Zem ch m all os2 (os1.length + 1) (m + os1.length + 1) (putE o.dst v (evOps tb sp ch m all os1 0 env l).env) (evOps tb sp ch m all os1 0 env l).l True hob2
  rw [p1, p2, p4] at hq
  obtain ⟨g1, g2, μ1, g3, g4, g5⟩ := Zen (ro := ro) (N := N) htb hmz hsp ch m all ms os1 0 env l (ltK m) hN1 (fun j hj => by show Nat.blt j m = false; cases hb : Nat.blt j m with | false => rfl | true => rw [Nat.blt_eq] at hb; omega) h3
  obtain ⟨k1, k2, μ2, k3, k4, k5⟩ := Zen (ro := ro) (N := N) htb hmz hsp ch m all ms os2 (os1.length + 1) (putE o.dst v (evOps tb sp ch m all os1 0 env l).env) (evOps tb sp ch m all os1 0 env l).l μ1 hN2 (fun j hj => g3 j (by omega)) p3
  have hd1 := hd
  generalize hE1 : evOps tb sp ch m all os1 0 env l = E1 at *
  generalize hE2 : evOps tb sp ch m all os2 (os1.length + 1) (putE o.dst v E1.env) E1.l = E2 at *
  have hlen : all.length = os1.length + (os2.length + 1) := by rw [hall, List.length_append, List.length_cons]
  have hit1 : ∀ x, x < os1.length → itemAt (E1.its ++ ⟨o.dst, ins, v, [(kx, B)], [], none⟩ :: E2.its) x = itemAt E1.its x := fun x hx => by
    simp only [itemAt, List.getD_eq_getElem?_getD]
    rw [List.getElem?_append_left (by omega)]
  have hitc : itemAt (E1.its ++ ⟨o.dst, ins, v, [(kx, B)], [], none⟩ :: E2.its) os1.length = ⟨o.dst, ins, v, [(kx, B)], [], none⟩ := by
    simp only [itemAt, List.getD_eq_getElem?_getD]
    rw [List.getElem?_append_right (by omega), g1, Nat.sub_self]; rfl
  have hit2 : ∀ x, itemAt (E1.its ++ ⟨o.dst, ins, v, [(kx, B)], [], none⟩ :: E2.its) (os1.length + 1 + x) = itemAt E2.its x := fun x => by
    simp only [itemAt, List.getD_eq_getElem?_getD]
    rw [List.getElem?_append_right (by omega), g1, show os1.length + 1 + x - os1.length = x + 1 by omega, List.getElem?_cons_succ]
  refine awp_drawD hmo ?_
  intro n K Z ν w a hg fuel listed hsz hlo hhi hfuel
  refine run_seg (κ := κ) 0 all.length (by simp) (E1.its ++ ⟨o.dst, ins, v, [(kx, B)], [], none⟩ :: E2.its) (by simpa using hA) (by simpa using hd1) (fun i hi => ?_) (σ' := ⟨μ2, lke E2.env, lkr E2.l, ms⟩) ?_ fuel listed (List.range' 0 all.length) (CS.st ⟨m, env, l, ms⟩) hsz (by rw [List.length_range']; simpa using hfuel) (fun i => ?_) hlo (fun i hi1 hi2 => hhi i (Nat.zero_le _) hi2) (by simpa using List.pairwise_lt_range' (s := 0) (n := all.length)) (closed_of (anc_ok (by simpa using hA)) hlo hhi) (fun j hj => ?_) ?_ n K Z ν w a hg
  · rw [Nat.zero_add]
    rcases Nat.lt_trichotomy i os1.length with hl | rfl | hl
    · refine ⟨os1[i], ?_, ?_⟩
      · rw [List.getElem?_toArray, hall, List.getElem?_append_left hl, List.getElem?_eq_getElem hl]
      · rw [hit1 i hl]
        exact g2 _ _ (List.getElem?_eq_getElem hl)
    · refine ⟨o, ?_, ?_⟩
      · rw [List.getElem?_toArray, hall, List.getElem?_append_right (Nat.le_refl _), Nat.sub_self]; rfl
      · rw [hitc]
        exact oprun_fg hS ho hgd hin hmen hB hBm hv
    · obtain ⟨x, rfl⟩ : ∃ x, i = os1.length + 1 + x := ⟨i - (os1.length + 1), by omega⟩
      have hx : x < os2.length := by omega
      refine ⟨os2[x], ?_, ?_⟩
      · rw [List.getElem?_toArray, hall, List.getElem?_append_right (by omega), show os1.length + 1 + x - os1.length = x + 1 by omega, List.getElem?_cons_succ, List.getElem?_eq_getElem hx]
      · rw [hit2]
        exact k2 _ _ (List.getElem?_eq_getElem hx)
  · intro n K Z ν w a hg
    refine awpD_end (by rw [Nat.zero_add, List.size_toArray]; exact Nat.beq_refl _) hq n K Z ν w a (hg.widen fun j hj => ?_)
    show Nat.blt j (m + os1.length + 1 + os2.length) = true
    rw [Nat.blt_eq]
    rcases Nat.lt_or_ge j (m + os1.length + 1 + os2.length) with h | h
    · exact h
    · rw [k3 j (by omega)] at hj; cases hj
  · rw [List.mem_range']
    constructor
    · rintro ⟨q, hq, rfl⟩
      exact ⟨⟨by omega, by omega⟩, hhi _ (by omega) (by rw [List.size_toArray]; omega)⟩
    · rintro ⟨⟨h1, h2⟩, _⟩
      exact ⟨i, by omega, by omega⟩
  · show Nat.blt j m = true
    rw [Nat.blt_eq]
    have := Nat.le_of_ble_eq_true hκ
    omega
  · have hdo : ∀ d, o.dst = some d → d < N := fun d hd2 => by
      simp [dstOK, hd2] at hNo; exact hNo
    have er : List.range' 0 all.length = List.range' 0 os1.length ++ (os1.length :: List.range' (os1.length + 1) os2.length) := by
      rw [hlen, ← List.range'_append_1, Nat.zero_add, List.range'_succ]
    rw [er]
    refine runsTo_ap (s1 := ⟨μ1, lke E1.env, lkr E1.l, ms⟩) (Zfe (fun i hi => ?_) g5) ⟨?_, ?_⟩
    · rw [List.mem_range'] at hi
      obtain ⟨q, hq, rfl⟩ := hi
      rw [Nat.sub_zero, hit1 _ (by omega)]
    · dsimp only
      rw [Nat.sub_zero, hitc]
      exact ⟨hr1, fun p hp => by rw [List.mem_singleton.1 hp]; exact hr2, fun k hk => (by cases hk), hdo⟩
    · dsimp only
      rw [Nat.sub_zero, hitc]
      have e2 : Item.app ⟨o.dst, ins, v, [(kx, B)], [], none⟩ ⟨μ1, lke E1.env, lkr E1.l, ms⟩ = ⟨μ1, lke (putE o.dst v E1.env), lkr E1.l, ms⟩ := by
        rw [Zeh]; rfl
      rw [e2]
      refine Zfe (fun i hi => ?_) k5
      rw [List.mem_range'] at hi
      obtain ⟨q, hq, rfl⟩ := hi
      rw [Nat.sub_zero, show os1.length + 1 + 1 * q - (os1.length + 1) = q by omega, show os1.length + 1 + 1 * q = os1.length + 1 + q by omega, hit2]
end
end Go.Proofs.Ytbcghiagomkadaa.Cal
