/- Own texts of the proof, merged, in order. -/
import Derived.Test.YtlckljphakkomaaS21
set_option linter.unusedVariables false
set_option linter.unusedSimpArgs false
namespace Go.Proofs.Ytlckljphakkomaa.Cal
open Go
section
variable {P : Program} {ro : Option Nat} {N κ : Nat} {tb : Nat → Option TI} {sp : Nat → Option Spec} {ops : Array Oper}
/-- What the rest of such a region comes to, from its operation k on. -/
def awpD (P : Program) (ro : Option Nat) (N κ : Nat) (ops : Array Oper) (k : Nat) (σ : St) (Q : Exit → St → Prop) : Prop :=
  ∀ n K Z ν w a, Good K Z N w ν σ a → ∀ (fuel : Nat) (listed : Array Bool), listed.size = ops.size → (∀ i, i < k → listed.getD i true = true) → (∀ i, k ≤ i → i < ops.size → listed.getD i true = false) → ops.size - k ≤ fuel →
    wpAnyIn (FF ro) n P .any ops (Post N κ K Z w ν Q) fuel listed a w
def ancOK (ops : List Oper) : Bool :=
  let A := ancs ops []
  (List.range ops.length).all fun i =>
    ((A.getD i []).all fun j => match ops[i]? with | some o => (predsOf o).any (fun p => Nat.beq p j || ((A.getD p []).any fun q => Nat.beq q j)) && Nat.blt j i | none => false) &&
    (match ops[i]? with | some o => (predsOf o).all fun p => Nat.blt p i | none => false)
def segOK (ops : List Oper) (k n : Nat) (l : List Item) : Bool :=
  let A := ancs ops []
  ((List.range n).all fun i => (List.range i).all fun j => ((A.getD (k + i) []).any fun q => Nat.beq q (k + j)) || apartB (itemAt l j) (itemAt l i)) &&
  ((List.range (ops.length - (k + n))).all fun i => (List.range n).all fun j => (A.getD (k + n + i) []).any fun q => Nat.beq q (k + j))
structure AncOK (ops : Array Oper) : Prop where
  up : ∀ i, i < ops.size → ∀ o, ops[i]? = some o → (∀ j, j ∈ (ancs ops.toList []).getD i [] → (∃ p, p ∈ predsOf o ∧ (p = j ∨ j ∈ (ancs ops.toList []).getD p [])) ∧ j < i) ∧ (∀ p, p ∈ predsOf o → p < i)
theorem anc_ok (hc : ancOK ops.toList = true) : AncOK ops := by
  refine ⟨fun i hi o ho => ?_⟩
  simp only [ancOK, List.all_eq_true, List.mem_range, Bool.and_eq_true, Array.length_toList] at hc
  obtain ⟨h1, h2⟩ := hc i hi
  have ho' : ops.toList[i]? = some o := by simpa using ho
  rw [ho'] at h1 h2
  simp only [List.all_eq_true, Nat.blt_eq] at h2
  refine ⟨fun j hj => ?_, h2⟩
  have := h1 j hj
  simp only [Bool.and_eq_true, List.any_eq_true, Bool.or_eq_true, Nat.blt_eq] at this
  obtain ⟨⟨p, hp, hpj⟩, hlt⟩ := this
  refine ⟨⟨p, hp, ?_⟩, hlt⟩
  rcases hpj with h | ⟨q, hq, h⟩
  · exact .inl (Nat.eq_of_beq_eq_true h)
  · exact .inr (Nat.eq_of_beq_eq_true h ▸ hq)
def Closed (ops : Array Oper) (listed : Array Bool) : Prop := ∀ i o, ops[i]? = some o → listed.getD i true = true → ∀ p, p ∈ predsOf o → listed.getD p true = true
theorem done_closed (hA : AncOK ops) {listed : Array Bool} (hcl : Closed ops listed) : ∀ i, i < ops.size → ∀ o, ops[i]? = some o → (∀ p, p ∈ predsOf o → listed.getD p true = true) → ∀ j, j ∈ (ancs ops.toList []).getD i [] → listed.getD j true = true := by
  intro i
  induction i using Nat.strongRecOn with
  | _ i ih =>
    intro hi o ho hp j hj
    obtain ⟨⟨p, hpm, hpj⟩, hlt⟩ := (hA.up i hi o ho).1 j hj
    rcases hpj with rfl | hpj
    · exact hp p hpm
    · have hpi := (hA.up i hi o ho).2 p hpm
      have hps : p < ops.size := by omega
      exact ih p hpi hps ops[p] (Array.getElem?_eq_getElem hps) (hcl p _ (Array.getElem?_eq_getElem hps) (hp p hpm)) j hpj
theorem preds_ready {listed : Array Bool} {i : Nat} (hi : i ∈ Region.ready .any ops listed) : i < ops.size ∧ listed.getD i true = false ∧ ∀ o, ops[i]? = some o → ∀ p, p ∈ predsOf o → listed.getD p true = true := by
  simp only [Region.ready, List.mem_filter, List.mem_range, Bool.and_eq_true, Bool.not_eq_true'] at hi
  obtain ⟨h1, h2, h3⟩ := hi
  refine ⟨h1, h2, fun o ho p hp => ?_⟩
  rw [ho] at h3
  simp only [Option.map_some, Option.getD_some] at h3
  simp only [predsOf, List.mem_map, List.mem_filter] at hp
  obtain ⟨e, ⟨he, hb⟩, rfl⟩ := hp
  have := (Array.all_eq_true_iff_forall_mem.1 h3) e (by simpa using he)
  rw [hb] at this
  simp only [Bool.not_true, Bool.false_or] at this
  cases hg : listed[e.on]? with
  | none => simp [Array.getD_eq_getD_getElem?, hg]
  | some x => simp [Array.getD_eq_getD_getElem?, hg] at this ⊢; exact this
theorem ready_of {listed : Array Bool} {i : Nat} {o : Oper} (ho : ops[i]? = some o) (hl : listed.getD i true = false) (hp : ∀ p, p ∈ predsOf o → p < listed.size ∧ listed.getD p true = true) : i ∈ Region.ready .any ops listed := by
  have hi : i < ops.size := (Array.getElem?_eq_some_iff.1 ho).1
  simp only [Region.ready, List.mem_filter, List.mem_range, Bool.and_eq_true, Bool.not_eq_true']
  refine ⟨hi, hl, ?_⟩
  rw [ho]
  simp only [Option.map_some, Option.getD_some]
  refine Array.all_eq_true_iff_forall_mem.2 fun e he => ?_
  cases hb : Region.binds .any e with
  | false => rfl
  | true =>
    obtain ⟨h1, h2⟩ := hp e.on (List.mem_map.2 ⟨e, List.mem_filter.2 ⟨by simpa using he, hb⟩, rfl⟩)
    simp [Array.getD_eq_getD_getElem?, Array.getElem?_eq_getElem h1] at h2 ⊢
    exact h2
theorem set_get {listed : Array Bool} {i j : Nat} (hi : i < listed.size) : ((listed.setIfInBounds i true).getD j true = true ↔ (j = i ∨ listed.getD j true = true)) := by
  simp only [Array.getD_eq_getD_getElem?, Array.getElem?_setIfInBounds]
  by_cases h : i = j
  · subst h; simp [hi]
  · simp [h, Ne.symm h]
theorem set_getF {listed : Array Bool} {i j : Nat} (hi : i < listed.size) : ((listed.setIfInBounds i true).getD j true = false ↔ (j ≠ i ∧ listed.getD j true = false)) := by
  have := set_get (j := j) hi
  cases h : (listed.setIfInBounds i true).getD j true with
  | true =>
    simp only [h, true_iff] at this
    refine ⟨fun hh => (by cases hh), fun hh => ?_⟩
    rcases this with e | e
    · exact absurd e hh.1
    · rw [e] at hh; exact absurd hh.2 (by simp)
  | false =>
    rw [h] at this
    simp only [Bool.false_eq_true, false_iff, not_or] at this
    exact ⟨fun _ => ⟨this.1, by cases hx : listed.getD j true with | false => rfl | true => exact absurd hx this.2⟩, fun _ => rfl⟩
theorem run_seg {Q : Exit → St → Prop} {σ' : St} (k n' : Nat) (hkn : k + n' ≤ ops.size) (l : List Item) (hA : ancOK ops.toList = true) (hc : segOK ops.toList k n' l = true) (hop : ∀ i, i < n' → ∃ o, ops[k + i]? = some o ∧ OpRun P ro N ops o (itemAt l i)) (hend : awpD P ro N κ ops (k + n') σ' Q) :
    ∀ (fuel : Nat) (listed : Array Bool) (L : List Nat) (σ : St), listed.size = ops.size → L.length + (ops.size - (k + n')) ≤ fuel → (∀ i, i ∈ L ↔ (k ≤ i ∧ i < k + n') ∧ listed.getD i true = false) → (∀ i, i < k → listed.getD i true = true) → (∀ i, k + n' ≤ i → i < ops.size → listed.getD i true = false) → L.Pairwise (· < ·) →
      Closed ops listed → Holds κ σ → runsTo N (fun x => itemAt l (x - k)) L σ σ' → ∀ n K Z ν w a, Good K Z N w ν σ a → wpAnyIn (FF ro) n P .any ops (Post N κ K Z w ν Q) fuel listed a w := by
  have hA := anc_ok hA
  simp only [segOK, Bool.and_eq_true, List.all_eq_true, List.mem_range, Bool.or_eq_true, List.any_eq_true, Array.length_toList] at hc
  obtain ⟨hc1, hc2⟩ := hc
  have hap0 : ∀ i j, k ≤ j → j < i → i < k + n' → j ∈ (ancs ops.toList []).getD i [] ∨ Apart (itemAt l (j - k)) (itemAt l (i - k)) := by
    intro i j h1 h2 h3
    have := hc1 (i - k) (by omega) (j - k) (by omega)
    rw [show k + (i - k) = i from by omega, show k + (j - k) = j from by omega] at this
    rcases this with ⟨q, hq, h⟩ | h
    · exact .inl (Nat.eq_of_beq_eq_true h ▸ hq)
    · exact .inr (apart_of h)
  have hlate : ∀ i j, k ≤ j → j < k + n' → k + n' ≤ i → i < ops.size → j ∈ (ancs ops.toList []).getD i [] := by
    intro i j h1 h2 h3 h4
    obtain ⟨q, hq, h⟩ := hc2 (i - (k + n')) (by omega) (j - k) (by omega)
    rw [show k + n' + (i - (k + n')) = i from by omega] at hq
    rw [show k + (j - k) = j from by omega] at h
    exact Nat.eq_of_beq_eq_true h ▸ hq
  intro fuel
  induction fuel with
  | zero =>
    intro listed L σ hsz hlen hL hlo hhi hpw hcl hh hr n K Z ν w a hg
    obtain rfl : L = [] := List.eq_nil_of_length_eq_zero (by omega)
    obtain rfl : σ = σ' := hr
    refine hend n K Z ν w a hg 0 listed hsz (fun i hi => ?_) hhi (by simpa using hlen)
    by_cases hik : i < k
    · exact hlo i hik
    · cases h : listed.getD i true with
      | true => rfl
      | false => exact absurd ((hL i).2 ⟨⟨by omega, hi⟩, h⟩) (by simp)
  | succ fuel ih =>
    intro listed L σ hsz hlen hL hlo hhi hpw hcl hh hr n K Z ν w a hg
    cases hLe : L with
    | nil =>
      subst hLe
      obtain rfl : σ = σ' := hr
      refine hend n K Z ν w a hg _ listed hsz (fun i hi => ?_) hhi (by simpa using hlen)
      by_cases hik : i < k
      · exact hlo i hik
      · cases h : listed.getD i true with
        | true => rfl
        | false => exact absurd ((hL i).2 ⟨⟨by omega, hi⟩, h⟩) (by simp)
    | cons i0 L0 =>
    refine ⟨fun hnil => ?_, fun i hi => ?_⟩
    · exfalso
      rw [hLe] at hL hpw
      obtain ⟨⟨hi1, hi2⟩, hl⟩ := (hL i0).1 List.mem_cons_self
      have hs : i0 < ops.size := by omega
      have : i0 ∈ Region.ready .any ops listed := ready_of (Array.getElem?_eq_getElem hs) hl fun p hp => by
        have hpi := (hA.up i0 hs _ (Array.getElem?_eq_getElem hs)).2 p hp
        refine ⟨by omega, ?_⟩
        cases hpl : listed.getD p true with
        | true => rfl
        | false =>
          by_cases hpk : p < k
          · rw [hlo p hpk] at hpl; cases hpl
          have hmem := (hL p).2 ⟨⟨by omega, by omega⟩, hpl⟩
          rcases List.mem_cons.1 hmem with rfl | hmem
          · omega
          · have := List.rel_of_pairwise_cons hpw hmem; omega
      rw [hnil] at this
      cases this
    · obtain ⟨h1, h2, h3⟩ := preds_ready hi
      have hik : k ≤ i := by
        rcases Nat.lt_or_ge i k with h | h
        · rw [hlo i h] at h2; cases h2
        · exact h
      have hin : i < k + n' := by
        rcases Nat.lt_or_ge i (k + n') with h | h
        · exact h
        · exfalso
          rw [hLe] at hL
          obtain ⟨⟨b1, b2⟩, b3⟩ := (hL i0).1 List.mem_cons_self
          have := done_closed hA hcl i h1 _ (Array.getElem?_eq_getElem h1) (h3 _ (Array.getElem?_eq_getElem h1)) i0 (hlate i i0 b1 b2 h h1)
          rw [this] at b3; cases b3
      obtain ⟨o, ho, hrun⟩ := hop (i - k) (by omega)
      rw [show k + (i - k) = i from by omega] at ho
      have hiL := (hL i).2 ⟨⟨hik, hin⟩, h2⟩
      clear hLe
      obtain ⟨A, B, rfl⟩ := List.append_of_mem hiL
      have hA1 : ∀ j, j ∈ A → j < i := fun j hj => by
        rw [List.pairwise_append] at hpw
        exact hpw.2.2 j hj i List.mem_cons_self
      have hap : ∀ j, j ∈ A → Apart (itemAt l (j - k)) (itemAt l (i - k)) := by
        intro j hj
        have hjL := (hL j).1 (List.mem_append_left _ hj)
        rcases hap0 i j hjL.1.1 (hA1 j hj) hin with h | h
        · have hd := done_closed hA hcl i h1 o ho (h3 o ho) j h
          rw [hd] at hjL
          cases hjL.2
        · exact h
      obtain ⟨f1, r1⟩ := pull_front A σ σ' hap hr
      unfold wpOpIn
      simp only [ho]
      refine hrun n K Z ν w a σ hg f1 _ _ ?_
      intro Z1 ν1 w1 a1 hs hν hg1
      have hi2 : i < listed.size := by omega
      have hnd : i ∉ A ∧ i ∉ B := by
        have hne : (A ++ i :: B).Pairwise (· ≠ ·) := hpw.imp fun h => Nat.ne_of_lt h
        rw [List.pairwise_append] at hne
        exact ⟨fun h => hne.2.2 i h i List.mem_cons_self rfl, fun h => List.rel_of_pairwise_cons hne.2.1 h rfl⟩
      have := ih (listed.setIfInBounds i true) (A ++ B) _ (by simpa using hsz) (by simp at hlen ⊢; omega) (fun j => ?_) (fun j hj => (set_get hi2).2 (.inr (hlo j hj))) (fun j hj1 hj2 => (set_getF hi2).2 ⟨by omega, hhi j hj1 hj2⟩) ?_ ?_ (holds_app hh) r1 n _ _ ν1 w1 a1 hg1
      · exact run_any.wpAnyIn_mono' this fun e a' w' hp => hp.trans hs (fun k hk => hν k (hh k hk))
      · rw [set_getF hi2]
        constructor
        · intro hj
          have hj' : j ∈ A ++ i :: B := by
            rcases List.mem_append.1 hj with h | h
            · exact List.mem_append_left _ h
            · exact List.mem_append_right _ (List.mem_cons_of_mem _ h)
          obtain ⟨q1, q2⟩ := (hL j).1 hj'
          refine ⟨q1, ?_, q2⟩
          rintro rfl
          rcases List.mem_append.1 hj with h | h
          · exact hnd.1 h
          · exact hnd.2 h
        · rintro ⟨q1, q2, q3⟩
          have := (hL j).2 ⟨q1, q3⟩
          rcases List.mem_append.1 this with h | h
          · exact List.mem_append_left _ h
          · rcases List.mem_cons.1 h with h | h
            · exact absurd h q2
            · exact List.mem_append_right _ h
      · exact hpw.sublist (List.Sublist.append (List.Sublist.refl A) (List.sublist_cons_self i B))
      · intro j oj hoj hlj p hp
        rw [set_get hi2]
        rcases (set_get hi2).1 hlj with rfl | h
        · exact .inr (h3 oj hoj p hp)
        · exact .inr (hcl j oj hoj h p hp)
theorem closed_of {k : Nat} {listed : Array Bool} (hA : AncOK ops) (h1 : ∀ i, i < k → listed.getD i true = true) (h2 : ∀ i, k ≤ i → i < ops.size → listed.getD i true = false) : Closed ops listed := by
  intro i o ho hl p hp
  have hi : i < ops.size := (Array.getElem?_eq_some_iff.1 ho).1
  have hik : i < k := by
    rcases Nat.lt_or_ge i k with h | h
    · exact h
    · rw [h2 i h hi] at hl; cases hl
  exact h1 p (Nat.lt_trans ((hA.up i hi o ho).2 p hp) hik)
/-- Operations that do not meet. -/
theorem awpD_text (htb : TabOK P tb) (hmz : ∀ t i, tb t = some i → men noK i.zero = true) (hsp : SpOK P sp) (ch : Nat → Bool) (k : Nat) {m : Nat} {all os post : List Oper} (pre : List Oper) {env : List (Nat × AV)} {l : List (Nat × Option Blk)} {ms : List Nat} {Q : Exit → St → Prop} (hall : all = pre ++ (os ++ post)) (hk : pre.length = k) (hN : dstOK N os = true) (hκ : Nat.ble κ m = true) (hA : ancOK all = true)
    (hd : segOK all k os.length (evOps tb sp ch m all os k env l).its = true)
    (h : ∀ m' e' l' ob, evOut tb sp ch m all os k ⟨m + k, env, l, True⟩ = ⟨m', e', l', ob⟩ → Ob ob ∧ awpD P ro N κ all.toArray (k + os.length) (CS.st ⟨m', e', l', ms⟩) Q) : awpD P ro N κ all.toArray k (CS.st ⟨m + k, env, l, ms⟩) Q := by
  obtain ⟨hob, hq⟩ := h _ _ _ _ rfl
  obtain ⟨h1, h2, h3, h4⟩ := evOut_eq ch m all os k (m + k) env l True hob
  rw [h1, h2, h4] at hq
  obtain ⟨g1, g2, μ', g3, g4, g5⟩ := evOps_ok (ro := ro) (N := N) htb hmz hsp ch m all ms os k env l (ltK (m + k)) hN (fun j hj => by show Nat.blt j (m + k) = false; cases hb : Nat.blt j (m + k) with | false => rfl | true => rw [Nat.blt_eq] at hb; omega) h3
  have hsize : k + os.length ≤ all.toArray.size := by rw [List.size_toArray, hall]; simp; omega
  intro n K Z ν w a hg fuel listed hsz hlo hhi hfuel
  refine run_seg k os.length hsize (evOps tb sp ch m all os k env l).its (by simpa using hA) (by simpa using hd) (fun i hi => ?_) (σ' := ⟨μ', lke (evOps tb sp ch m all os k env l).env, lkr (evOps tb sp ch m all os k env l).l, ms⟩) ?_ fuel listed (List.range' k os.length) (CS.st ⟨m + k, env, l, ms⟩) hsz (by rw [List.length_range']; omega) (fun i => ?_) hlo (fun i hi => hhi i (by omega)) (by simpa using List.pairwise_lt_range' (s := k) (n := os.length)) (closed_of (anc_ok (by simpa using hA)) hlo hhi) (fun j hj => ?_) g5 n K Z ν w a hg
  · refine ⟨os[i], ?_, g2 _ _ (List.getElem?_eq_getElem hi)⟩
    rw [List.getElem?_toArray, hall, List.getElem?_append_right (by omega), hk, show k + i - k = i from by omega, List.getElem?_append_left hi, List.getElem?_eq_getElem hi]
  · intro n K Z ν w a hg
    refine hq n K Z ν w a (hg.widen fun j hj => ?_)
    show Nat.blt j (m + k + os.length) = true
    rw [Nat.blt_eq]
    rcases Nat.lt_or_ge j (m + k + os.length) with h | h
    · exact h
    · rw [g3 j h] at hj; cases hj
  · rw [List.mem_range']
    constructor
    · rintro ⟨q, hq, rfl⟩
      exact ⟨⟨by omega, by omega⟩, hhi _ (by omega) (by rw [List.size_toArray, hall]; simp; omega)⟩
    · rintro ⟨⟨h1, h2⟩, _⟩
      exact ⟨i - k, by omega, by omega⟩
  · show Nat.blt j (m + k) = true
    rw [Nat.blt_eq]
    have := Nat.le_of_ble_eq_true hκ
    omega
/-- One operation that everything else waits for. -/
theorem awpD_one (k : Nat) {all : List Oper} {o : Oper} {σ : St} {Q : Exit → St → Prop} (ho : all[k]? = some o) (hgd : o.guard.isNone = true) (hA : ancOK all = true) (hd : segOK all k 1 [] = true)
    (h : awpL P ro N κ [o] σ (thenQ (fun s => awpD P ro N κ all.toArray (k + 1) s Q) Q)) : awpD P ro N κ all.toArray k σ Q := by
  intro n K Z ν w a hg fuel listed hsz hlo hhi hfuel
  have hA := anc_ok (ops := all.toArray) (by simpa using hA)
  have ho' : all.toArray[k]? = some o := by rw [List.getElem?_toArray]; exact ho
  have hks : k < all.toArray.size := (Array.getElem?_eq_some_iff.1 ho').1
  have hcl := closed_of hA hlo hhi
  simp only [segOK, Bool.and_eq_true, List.all_eq_true, List.mem_range, Bool.or_eq_true, List.any_eq_true] at hd
  cases fuel with
  | zero => omega
  | succ fuel =>
    have hh := h n K Z ν w a hg
    have hw0 : Region.wanted o (yielded #[] a.tmps) = true := wanted_none hgd _
    simp only [wpListIn, hw0, if_true] at hh
    refine ⟨fun hnil => ?_, fun i hi => ?_⟩
    · exfalso
      have : k ∈ Region.ready .any all.toArray listed := ready_of ho' (hhi k (Nat.le_refl _) hks) fun p hp => by
        have hpi := (hA.up k hks o ho').2 p hp
        exact ⟨by omega, hlo p hpi⟩
      rw [hnil] at this
      cases this
    · obtain ⟨h1, h2, h3⟩ := preds_ready hi
      have hik : k ≤ i := by
        rcases Nat.lt_or_ge i k with h | h
        · rw [hlo i h] at h2; cases h2
        · exact h
      have hie : i = k := by
        rcases Nat.lt_or_ge k i with h | h
        · exfalso
          obtain ⟨q, hq, he⟩ := hd.2 (i - (k + 1)) (by rw [List.size_toArray] at h1; omega) 0 (by omega)
          rw [show k + 1 + (i - (k + 1)) = i from by omega] at hq
          have hq2 : k ∈ (ancs all.toArray.toList []).getD i [] := by
            have he := Nat.eq_of_beq_eq_true he
            rw [Nat.add_zero] at he
            rw [← he]; simpa using hq
          have := done_closed hA hcl i h1 _ (Array.getElem?_eq_getElem h1) (h3 _ (Array.getElem?_eq_getElem h1)) k hq2
          rw [hhi k (Nat.le_refl _) hks] at this; cases this
        · omega
      subst hie
      unfold wpOpIn
      have hw1 : Region.wanted o (yielded all.toArray a.tmps) = true := wanted_none hgd _
      simp only [ho', hw1, if_true]
      have h2 : o.wpIn (FF ro) n P a w (fun a' w' => Post N κ K Z w ν (thenQ (fun s => awpD P ro N κ all.toArray (i + 1) s Q) Q) .normal a' w') (Post N κ K Z w ν (thenQ (fun s => awpD P ro N κ all.toArray (i + 1) s Q) Q)) := hh
      refine oper_mono (fun a' w' hp => ?_) (fun e a' w' he hp => ?_) h2
      · obtain ⟨Z', ν', σ', g1, g2, g3, g4⟩ := hp
        have hls : i < listed.size := by omega
        refine run_any.wpAnyIn_mono' (g4 n _ _ ν' w' a' g3 fuel (listed.setIfInBounds i true) (by simpa using hsz) (fun j hj => (set_get hls).2 ?_) (fun j hj1 hj2 => (set_getF hls).2 ⟨by omega, hhi j (by omega) hj2⟩) (by omega)) fun e a2 w2 hp => hp.trans g1 g2
        rcases Nat.lt_succ_iff_lt_or_eq.1 hj with h | h
        · exact .inr (hlo j h)
        · exact .inl h
      · obtain ⟨Z', ν', σ', g1, g2, g3, g4⟩ := hp
        refine ⟨Z', ν', σ', g1, g2, g3, ?_⟩
        cases e <;> first | exact absurd rfl he | exact g4
theorem awpD_end {k : Nat} {σ : St} {Q : Exit → St → Prop} (hk : Nat.beq k ops.size = true) (h : Q .normal σ) : awpD P ro N κ ops k σ Q := by
  obtain rfl := Nat.eq_of_beq_eq_true hk
  intro n K Z ν w a hg fuel listed hsz hlo hhi hfuel
  have hn : Region.ready .any ops listed = [] := by
    refine List.eq_nil_iff_forall_not_mem.2 fun i hi => ?_
    obtain ⟨h1, h2, _⟩ := preds_ready hi
    rw [hlo i h1] at h2; cases h2
  cases fuel with
  | zero => exact ⟨hn, post_now hg h⟩
  | succ fuel => exact ⟨fun _ => post_now hg h, fun i hi => by rw [hn] at hi; cases hi⟩
theorem awp_drawD (hmo : P.follows .mixedOrders = true) {id : Nat} {σ : St} {Q : Exit → St → Prop} (h : awpD P ro N κ ops 0 σ Q) : awp P ro N κ (.region id ops true) σ Q := by
  intro n K Z ν w a hg
  refine wpIn_region_any hmo ?_
  have hstep : Step K Z w Z { w with drawn := w.drawn + 1 } := ⟨⟨rfl, rfl, rfl, Nat.le_refl _, fun _ _ => rfl⟩, fun _ h => h, fun _ h => .inl h⟩
  have hg1 := hg.drew (w.drawn + 1)
  refine run_any.wpAnyIn_mono' (h n K Z ν _ a hg1 ops.size (Array.replicate ops.size false) (by simp) (fun i hi => absurd hi (by omega)) (fun i _ hi => by simp [Array.getD_eq_getD_getElem?, Array.getElem?_replicate, hi]) (by omega)) fun e a' w' hp => ?_
  have e := Post.trans (N := N) (κ := κ) (K := K) (Z := Z) (w := w) (ν := ν) hstep (fun _ _ => rfl) (by rw [un_self hg.zk]; exact hp)
  exact e
end
end Go.Proofs.Ytlckljphakkomaa.Cal
namespace Go.Proofs.Ytlckljphakkomaa.Cal
open Go Pl
/-- What Solve answers. -/
def zsP (g : Gm) (W C : List Int) (e : Int) : Prop := (validB g = false ∧ e = 1 ∧ W = [] ∧ C = []) ∨ (validB g = true ∧ ((e = 0 ∧ solB g W C = true ∧ W = winA g) ∨ (e = 3 ∧ W = [] ∧ C = [] ∧ 16 < g.own.length ∧ ¬ ∃ a b, ∀ v, v < g.own.length → g.pri.getD v 0 = a ∨ g.pri.getD v 0 = b)))
theorem zs_zi {o p : List Int} {x : List (List Int)} (hV : Valid ⟨o, p, x⟩) : ZI ⟨o, p, x⟩ ⟨List.replicate o.length true, List.replicate x.length (-1), List.replicate x.length (-1), 131072⟩ := by
  have hxl : x.length = o.length := hV.2.2.1
  refine ⟨List.length_replicate, ?_, ?_, by show (0 : Int) ≤ 131072; decide, by show (131072 : Int) ≤ 131072; decide, zT hV⟩
  · show (List.replicate x.length _).length = o.length
    rw [List.length_replicate, hxl]
  · show (List.replicate x.length _).length = o.length
    rw [List.length_replicate, hxl]
theorem zs_ans {o p : List Int} {x : List (List Int)} (hV : Valid ⟨o, p, x⟩) {W' C' : List Int} {e : Int} (hZ : (e = 0 ∧ ∃ l', ZR ⟨o, p, x⟩ (List.replicate o.length true) (List.replicate x.length (-1)) (List.replicate x.length (-1)) 131072 W' C' l') ∨ (e = 3 ∧ W' = [] ∧ C' = [] ∧ ZP ⟨o, p, x⟩ (List.replicate o.length true) (List.replicate x.length (-1)) (List.replicate x.length (-1)) 131072)) :
    (e = 0 ∧ solB ⟨o, p, x⟩ W' C' = true ∧ W' = winA ⟨o, p, x⟩) ∨ (e = 3 ∧ W' = [] ∧ C' = [] ∧ 16 < o.length ∧ ¬ ∃ a b, ∀ v, v < o.length → p.getD v 0 = a ∨ p.getD v 0 = b) := by
  have hxl : x.length = o.length := hV.2.2.1
  rw [hxl] at hZ
  rcases hZ with ⟨h1, l', h2⟩ | ⟨h1, h2, h3, h4⟩
  · exact .inl ⟨h1, zie_sol (g := ⟨o, p, x⟩) hV h2⟩
  · exact .inr ⟨h1, h2, h3, zie_full (g := ⟨o, p, x⟩) hV h4⟩
noncomputable def spZs : Nat → Option Spec
  | 23 => some validS
  | 25 => some allS
  | _ => none
theorem spZs_ok : SpOK Try.prog spZs := by
  intro f S h
  unfold spZs at h
  split at h
  · cases h; exact valid_ok
  · cases h; exact all_ok
  · cases h
set_option maxRecDepth 4000 in
set_option maxHeartbeats 4000000 in
theorem zsolve_fg {o p : List Int} {x : List (List Int)} :
    FG Try.prog 10 [.agg (.cons (.roI o) (.cons (.roI p) (.cons (.roII x) .nil)))] [] 0 fun g => ∃ (W' C' : List Int) (e : Int), zsP ⟨o, p, x⟩ W' C' e ∧ g = ⟨0, resV [.agg (.cons (.roI W') (.cons (.roI C') .nil)), .int .i64 e], []⟩ := by
  refine fg_of htb (fn := Try.f10) (by kernel_rfl) (by kernel_rfl) rfl (Nat.le_of_ble_eq_true rfl) fun hl => ?_
  simp only [lenP, mkL, lim] at hl
  repeat' first
    | with_reducible first | refine awp_seq ?_ | refine awp_block ?_ | refine next_then ?_ | refine next_block ?_ | refine exit_then ?_ | refine ret_then ?_ | refine ret_block ?_ | refine exit_here ?_ | refine awp_exit ?_ | refine awp_ret ?_ | refine awp_skip ?_ | refine awp_label ?_ | refine next_noGoto ?_ | refine ret_noGoto ?_ | refine exit_noGoto ?_ | refine awp_scope ?_
    | ((with_reducible refine exit_past ?_ ?_); exact rfl)
    | ((with_reducible refine isCond ?_); refine awp_condO rfl ?_ ?_ <;> intro hb <;> (try simp only [zH] at hb))
    | ((with_reducible refine isRegS 3 ?_ ?_); (· exact rfl); (first | refine awp_textM htb hmz spZs_ok (fun _ => false) rfl rfl ?_ | refine awp_drawM hmo htb hmz spZs_ok (fun _ => false) rfl rfl (by kernel_rfl) ?_); intro m' e' l' ob h; simp only [zE0, zE1, zE2, zE3, zE4, zE5, evp, evx, ev1, evLoad, evStore, evBin, isBoolK, forall_const, z38, tb, Nat.reduceAdd, Nat.reduceSub, Nat.reduceMul, Nat.reduceEqDiff, Nat.reduceLeDiff, Nat.reduceLT, Nat.reduceBEq, Nat.reduceBNe, ↓reduceIte, reduceIte, spZs, validS, allS] at h; obtain ⟨rfl, rfl, rfl, rfl⟩ := h; refine ⟨?_, ?_⟩)
    | ((with_reducible refine Ob.mk ?_); first | exact trivial | (intros; omega) | ((repeat' first | apply And.intro | (intro hg; have hg' := hg; try simp only [zH] at hg')) <;> first | (with_reducible exact True.intro) | assumption | omega | (simp only [zH]; omega)))
  · have hv : validB ⟨o, p, x⟩ = false := by cases h : validB ⟨o, p, x⟩ with | false => rfl | true => rw [h] at hb; cases hb
    refine fin_ret rfl rfl (gq_of ⟨0, resV [.agg (.cons (.roI []) (.cons (.roI []) .nil)), .int .i64 1], []⟩ [] ⟨[], [], 1, .inl ⟨hv, rfl, rfl, rfl⟩, rfl⟩ rfl ?_ trivial)
    exact imp_tup (imp_cons (imp_agg (imp_cons imp_nilI (imp_cons imp_nilI (imp_eq rfl)))) (imp_eq rfl))
  have hV := validB_iff.1 hb
  have hs := zs_zi hV
  obtain ⟨hn, hpl, hxl, hpos⟩ := id hV
  simp only [Gm.n] at hn hpl hxl
  refine awp_drawD hmo ?_
  refine awpD_text (m := 6) htb hmz spZs_ok (fun _ => false) 0 [] (os := [_, _, _, _, _]) rfl rfl rfl rfl (by kernel_rfl) (by kernel_rfl) ?_; intro m' e' l' ob h; simp only [zE0, zE1, zE2, zE3, zE4, zE5, evp, evx, ev1, evLoad, evStore, evBin, isBoolK, forall_const, z38, tb, Nat.reduceAdd, Nat.reduceSub, Nat.reduceMul, Nat.reduceEqDiff, Nat.reduceLeDiff, Nat.reduceLT, Nat.reduceBEq, Nat.reduceBNe, ↓reduceIte, reduceIte, spZs, validS, allS] at h; obtain ⟨rfl, rfl, rfl, rfl⟩ := h; refine ⟨?_, ?_⟩
  · first | ((with_reducible refine Ob.mk ?_); first | exact trivial | (intros; omega) | ((repeat' first | apply And.intro | (intro hg; have hg' := hg; try simp only [zH] at hg')) <;> first | (with_reducible exact True.intro) | assumption | omega | (simp only [zH]; omega))) | skip
  refine awpD_one 5 rfl rfl (by kernel_rfl) (by kernel_rfl) ?_
  refine awpL_callG ([]) (solved_fg hb hs) rfl rfl rfl rfl rfl rfl rfl rfl rfl (by simp only [rinR, rhoC, zE0, zE1, zE2, zE3, zE4, zE5, evp, evx, ev1, evLoad, evStore, evBin, isBoolK, forall_const, z38, tb, Nat.reduceAdd, Nat.reduceSub, Nat.reduceMul, Nat.reduceEqDiff, Nat.reduceLeDiff, Nat.reduceLT, Nat.reduceBEq, Nat.reduceBNe, ↓reduceIte, reduceIte, spZs, validS, allS]) ?_; intro gm gv gr hq m' e' l' h; obtain ⟨W', C', e, hZ, hq⟩ := hq; simp only [GR.mk.injEq] at hq; obtain ⟨rfl, rfl, rfl⟩ := hq; simp only [rhoC, outR, renR, dels, zE0, zE1, zE2, zE3, zE4, zE5, evp, evx, ev1, evLoad, evStore, evBin, isBoolK, forall_const, z38, tb, Nat.reduceAdd, Nat.reduceSub, Nat.reduceMul, Nat.reduceEqDiff, Nat.reduceLeDiff, Nat.reduceLT, Nat.reduceBEq, Nat.reduceBNe, ↓reduceIte, reduceIte, spZs, validS, allS] at h; obtain ⟨rfl, rfl, rfl⟩ := h; refine next_then ?_
  refine awpD_text (m := 5) htb hmz spZs_ok (fun _ => false) 6 [_, _, _, _, _, _] (os := [_, _, _, _]) rfl rfl rfl rfl (by kernel_rfl) (by kernel_rfl) ?_; intro m' e' l' ob h; simp only [zE0, zE1, zE2, zE3, zE4, zE5, evp, evx, ev1, evLoad, evStore, evBin, isBoolK, forall_const, z38, tb, Nat.reduceAdd, Nat.reduceSub, Nat.reduceMul, Nat.reduceEqDiff, Nat.reduceLeDiff, Nat.reduceLT, Nat.reduceBEq, Nat.reduceBNe, ↓reduceIte, reduceIte, spZs, validS, allS] at h; obtain ⟨rfl, rfl, rfl, rfl⟩ := h; refine ⟨?_, ?_⟩
  · first | ((with_reducible refine Ob.mk ?_); first | exact trivial | (intros; omega) | ((repeat' first | apply And.intro | (intro hg; have hg' := hg; try simp only [zH] at hg')) <;> first | (with_reducible exact True.intro) | assumption | omega | (simp only [zH]; omega))) | skip
  refine awpD_end rfl ?_
  repeat' first
    | with_reducible first | refine awp_seq ?_ | refine awp_block ?_ | refine next_then ?_ | refine next_block ?_ | refine exit_then ?_ | refine ret_then ?_ | refine ret_block ?_ | refine exit_here ?_ | refine awp_exit ?_ | refine awp_ret ?_ | refine awp_skip ?_ | refine awp_label ?_ | refine next_noGoto ?_ | refine ret_noGoto ?_ | refine exit_noGoto ?_ | refine awp_scope ?_
    | ((with_reducible refine exit_past ?_ ?_); exact rfl)
    | ((with_reducible refine isCond ?_); refine awp_condO rfl ?_ ?_ <;> intro hb <;> (try simp only [zH] at hb))
    | ((with_reducible refine isReg ?_); (first | refine awp_textM htb hmz spZs_ok (fun _ => false) rfl rfl ?_ | refine awp_drawM hmo htb hmz spZs_ok (fun _ => false) rfl rfl (by kernel_rfl) ?_); intro m' e' l' ob h; simp only [zE0, zE1, zE2, zE3, zE4, zE5, evp, evx, ev1, evLoad, evStore, evBin, isBoolK, forall_const, z38, tb, Nat.reduceAdd, Nat.reduceSub, Nat.reduceMul, Nat.reduceEqDiff, Nat.reduceLeDiff, Nat.reduceLT, Nat.reduceBEq, Nat.reduceBNe, ↓reduceIte, reduceIte, spZs, validS, allS] at h; obtain ⟨rfl, rfl, rfl, rfl⟩ := h; refine ⟨?_, ?_⟩)
    | ((with_reducible refine Ob.mk ?_); first | exact trivial | (intros; omega) | ((repeat' first | apply And.intro | (intro hg; have hg' := hg; try simp only [zH] at hg')) <;> first | assumption | omega | (simp only [zH]; omega)))
  refine fin_ret rfl rfl (gq_of ⟨0, resV [.agg (.cons (.roI W') (.cons (.roI C') .nil)), .int .i64 e], []⟩ [] ⟨W', C', e, .inr ⟨hb, ?_⟩, rfl⟩ rfl (imp_eq rfl) trivial)
  exact zs_ans hV hZ
end Go.Proofs.Ytlckljphakkomaa.Cal
namespace Go.Proofs.Ytlckljphakkomaa.Cal
open Go Pl
def exG1 : Gm := ⟨[0, 1], [1, 2], [[0, 1], [0, 1]]⟩
def exG2 : Gm := ⟨[1], [3], [[0]]⟩
theorem ex1_valid : Valid exG1 := by
  refine ⟨by decide, rfl, rfl, fun v hv => ?_⟩
  have hv : v < 2 := hv
  have : v = 0 ∨ v = 1 := by omega
  rcases this with rfl | rfl
  · refine ⟨by decide, fun i hi => ?_⟩
    have hi : i < 2 := hi
    have : i = 0 ∨ i = 1 := by omega
    rcases this with rfl | rfl <;> exact ⟨by decide, by decide, by decide⟩
  · refine ⟨by decide, fun i hi => ?_⟩
    have hi : i < 2 := hi
    have : i = 0 ∨ i = 1 := by omega
    rcases this with rfl | rfl <;> exact ⟨by decide, by decide, by decide⟩
theorem ex2_valid : Valid exG2 := by
  refine ⟨by decide, rfl, rfl, fun v hv => ?_⟩
  have hv : v < 1 := hv
  obtain rfl : v = 0 := by omega
  refine ⟨by decide, fun i hi => ?_⟩
  have hi : i < 1 := hi
  obtain rfl : i = 0 := by omega
  exact ⟨by decide, by decide, by decide⟩
theorem ex1_sol {W C : List Int} (h : solB exG1 W C = true) : W = [0, 0] ∧ C = [1, -1] := by
  obtain ⟨hc, hs⟩ := (solB_iff ex1_valid).1 h
  obtain ⟨hW, hC, hc⟩ := of_decide_eq_true hc
  have hW : W.length = 2 := hW
  have hC : C.length = 2 := hC
  match W, C, hW, hC with
  | [a, b], [c, d], _, _ =>
    obtain ⟨w0', m0', n0'⟩ := hc 0 (by decide)
    obtain ⟨w1', m1', n1'⟩ := hc 1 (by decide)
    have w0 : a = 0 ∨ a = 1 := w0'
    have w1 : b = 0 ∨ b = 1 := w1'
    have m0 : (0 : Int) = a → c ∈ [(0 : Int), 1] := m0'
    have m1 : (1 : Int) = b → d ∈ [(0 : Int), 1] := m1'
    have n0 : (0 : Int) ≠ a → c = -1 := n0'
    have n1 : (1 : Int) ≠ b → d = -1 := n1'
    have S0 := hs 0 (.inl rfl)
    have S1 := hs 1 (.inr rfl)
    rcases w0 with rfl | rfl
    · rcases w1 with rfl | rfl
      · have hd := n1 (by decide)
        have hcm := m0 rfl
        have hcm : c = 0 ∨ c = 1 := by exact (List.mem_cons.1 hcm).imp id List.mem_singleton.1
        rcases hcm with rfl | rfl
        · exfalso
          refine S0.cyc 0 (by decide) rfl (by decide) ⟨0, ⟨⟨⟨by decide, rfl⟩, by decide, fun _ => rfl, fun h => absurd rfl h⟩, by decide⟩, .refl _⟩
        · exact ⟨rfl, by rw [hd]⟩
      · exfalso
        have hdm := m1 rfl
        have hdm : d = 0 ∨ d = 1 := by exact (List.mem_cons.1 hdm).imp id List.mem_singleton.1
        rcases hdm with rfl | rfl
        · have := (S1.mine 1 (by decide) rfl rfl).2.2
          exact absurd (show (0 : Int) = 1 from this) (by decide)
        · refine S1.cyc 1 (by decide) rfl (by decide) ⟨1, ⟨⟨⟨by decide, rfl⟩, by decide, fun _ => rfl, fun h => absurd rfl h⟩, by decide⟩, .refl _⟩
    · exfalso
      have hb := S1.his 0 (by decide) rfl (by decide) 1 (by decide) (by decide)
      have hb : b = 1 := hb
      subst hb
      have hdm := m1 rfl
      have hdm : d = 0 ∨ d = 1 := by exact (List.mem_cons.1 hdm).imp id List.mem_singleton.1
      rcases hdm with rfl | rfl
      · refine S1.cyc 1 (by decide) rfl (by decide) ⟨0, ⟨⟨⟨by decide, rfl⟩, by decide, fun _ => rfl, fun h => absurd rfl h⟩, by decide⟩, .step (.refl _) ⟨⟨⟨by decide, rfl⟩, by decide, fun h => absurd h (by decide), fun _ => by decide⟩, by decide⟩⟩
      · refine S1.cyc 1 (by decide) rfl (by decide) ⟨1, ⟨⟨⟨by decide, rfl⟩, by decide, fun _ => rfl, fun h => absurd rfl h⟩, by decide⟩, .refl _⟩
theorem ex2_sol {W C : List Int} (h : solB exG2 W C = true) : W = [1] ∧ C = [0] := by
  obtain ⟨hc, hs⟩ := (solB_iff ex2_valid).1 h
  obtain ⟨hW, hC, hc⟩ := of_decide_eq_true hc
  have hW : W.length = 1 := hW
  have hC : C.length = 1 := hC
  match W, C, hW, hC with
  | [a], [c], _, _ =>
    obtain ⟨w0', m0', n0'⟩ := hc 0 (by decide)
    have w0 : a = 0 ∨ a = 1 := w0'
    have m0 : (1 : Int) = a → c ∈ [(0 : Int)] := m0'
    have S0 := hs 0 (.inl rfl)
    rcases w0 with rfl | rfl
    · exfalso
      refine S0.cyc 0 (by decide) rfl (by decide) ⟨0, ⟨⟨⟨by decide, rfl⟩, by decide, fun h => absurd h (by decide), fun _ => by decide⟩, by decide⟩, .refl _⟩
    · have hcm := m0 rfl
      rw [List.mem_singleton.1 hcm]
      exact ⟨rfl, rfl⟩
end Go.Proofs.Ytlckljphakkomaa.Cal
namespace Go.Proofs.Ytlckljphakkomaa.Cal
open Go
section
variable {P : Program} {ro : Option Nat} {N κ : Nat}
/-- A variable that is nil, seen as a slice of the call's own. -/
theorem awp_nilslot {c : Code} {m : Nat} {env : List (Nat × AV)} {rs : List (Nat × Option Blk)} {ms : List Nat} {Q : Exit → St → Prop} (s : Nat) (hs : lke env s = .cst (.slice none 0 0)) (hκ : Nat.ble κ m = true)
    (h : awp P ro N κ c (CS.st ⟨m + 1, (s, .own m) :: env, (m, some (.ints [])) :: rs, ms⟩) Q) : awp P ro N κ c (CS.st ⟨m, env, rs, ms⟩) Q := by
  intro n K Z ν w a hg
  have hk : (CS.st ⟨m, env, rs, ms⟩).mu m = false := by show Nat.blt m m = false; rw [nblt]; simp
  have hgr := grs_new (w' := w) (x := .slice none 0 0) (B := .ints []) (F := fun _ => False) hg.rs hg.zk hg.kl hk (Nat.le_refl _) (fun _ _ => rfl) (.inl ⟨rfl, rfl, fun _ h => h⟩) trivial (fun y hy => hy.elim)
  have hν := upN_ext (ν := ν) (x := .slice none 0 0) hk
  have hmu : ∀ j, addK (CS.st ⟨m, env, rs, ms⟩).mu (some m) j = true → ltK (m + 1) j = true := by
    intro j hj
    simp only [addK, CS.st, ltK, nblt, nbeq, Bool.or_eq_true, decide_eq_true_eq] at hj ⊢
    omega
  have e : updL (CS.st ⟨m, env, rs, ms⟩).rs [(m, some (.ints []))] = lkr ((m, some (.ints [])) :: rs) := by
    funext j
    rw [lkr_cons]
    simp only [updL, lko]
    by_cases hj : j = m
    · subst hj; simp [Nat.beq_refl]
    · simp only [beqN hj, if_neg hj]; rfl
  have hgr2 := hgr.nu (μ' := ltK (m + 1)) hmu (fun _ _ => rfl)
  rw [e] at hgr2
  have hgood : Good K Z N w (upN ν m (.slice none 0 0)) (CS.st ⟨m + 1, (s, .own m) :: env, (m, some (.ints [])) :: rs, ms⟩) a := by
    refine ⟨hg.size, upN_one hg.one rfl, fun t => ?_, hgr2, hg.zk, hg.kl, ?_, fun j hj => hmu j (addK_le j (hg.ml j hj))⟩
    · have := hg.env t
      show men (ltK (m + 1)) (lke ((s, .own m) :: env) t) = true ∧ R Z w (lke ((s, .own m) :: env) t) _ true _
      rw [lke_cons]
      by_cases ht : t = s
      · subst ht
        rw [if_pos rfl]
        refine ⟨by show Nat.blt m (m + 1) = true; rw [Nat.blt_eq]; omega, ?_⟩
        have h2 := this.2
        rw [show (CS.st ⟨m, env, rs, ms⟩).env t = lke env t from rfl, hs] at h2
        show [a.tmps.getD t undef] = [upN ν m (.slice none 0 0) m]
        rw [upN_same]; exact h2
      · rw [if_neg ht]
        exact ⟨men_le (fun j hj => hmu j (addK_le j hj)) this.1, R_nu hν this.1 this.2⟩
    · rw [hg.ds]
      exact fmC fun j hj => by rw [hν j (hg.ml j hj)]
  refine wpIn_mono (h n K Z _ w a hgood) ?_
  rintro e a' w' ⟨Z', ν', s', h1, h2, h3, h4⟩
  exact ⟨Z', ν', s', h1, fun j hj => (h2 j hj).trans (upN_other (by rintro rfl; have := Nat.le_of_ble_eq_true hκ; omega)), h3, h4⟩
end
end Go.Proofs.Ytlckljphakkomaa.Cal
namespace Go.Proofs.Ytlckljphakkomaa.Cal
open Go Pl
theorem zs_ex1 {W C : List Int} {e : Int} (h : zsP ⟨[0, 1], [1, 2], [[0, 1], [0, 1]]⟩ W C e) : W = [0, 0] ∧ C = [1, -1] ∧ e = 0 := by
  have hv : validB ⟨[0, 1], [1, 2], [[0, 1], [0, 1]]⟩ = true := validB_true ex1_valid
  rcases h with ⟨h1, _⟩ | ⟨_, ⟨h1, h2, h3⟩ | ⟨_, _, _, h4, _⟩⟩
  · rw [hv] at h1; cases h1
  · obtain ⟨a, b⟩ := ex1_sol h2
    exact ⟨a, b, h1⟩
  · have h4 : 16 < 2 := h4
    omega
theorem zs_ex2 {W C : List Int} {e : Int} (h : zsP ⟨[1], [3], [[0]]⟩ W C e) : W = [1] ∧ C = [0] ∧ e = 0 := by
  have hv : validB ⟨[1], [3], [[0]]⟩ = true := validB_true ex2_valid
  rcases h with ⟨h1, _⟩ | ⟨_, ⟨h1, h2, h3⟩ | ⟨_, _, _, h4, _⟩⟩
  · rw [hv] at h1; cases h1
  · obtain ⟨a, b⟩ := ex2_sol h2
    exact ⟨a, b, h1⟩
  · have h4 : 16 < 1 := h4
    omega
def exS : Spec
  | [] => some ⟨True, .agg (.cons (.roI [0, 1]) (.cons (.roI [1, 2]) (.cons (.roII [[0, 1], [0, 1]]) .nil))), none⟩
  | _ => none
set_option maxRecDepth 4000 in
set_option maxHeartbeats 4000000 in
theorem ex_ok : FSpec Try.prog 22 exS := by
  refine fspec_of htb (fn := Try.f22) (by kernel_rfl) (by kernel_rfl) rfl (fun args r hS => ?_) (fun args r hS hob hl => ?_)
  · unfold exS at hS; split at hS <;> first | (cases hS; done) | (cases hS; exact Nat.le_of_ble_eq_true rfl)
  unfold exS at hS
  split at hS
  case h_2 => cases hS
  simp only [Option.some.injEq] at hS
  subst hS
  repeat' first
    | with_reducible first | refine awp_seq ?_ | refine awp_block ?_ | refine next_then ?_ | refine next_block ?_ | refine exit_then ?_ | refine ret_then ?_ | refine ret_block ?_ | refine exit_here ?_ | refine awp_exit ?_ | refine awp_ret ?_ | refine awp_skip ?_ | refine awp_label ?_ | refine next_noGoto ?_ | refine ret_noGoto ?_ | refine exit_noGoto ?_ | refine awp_scope ?_
    | ((with_reducible refine exit_past ?_ ?_); exact rfl)
    | ((with_reducible refine isCond ?_); refine awp_condO rfl ?_ ?_ <;> intro hb <;> (try simp only [zH] at hb))
    | ((with_reducible refine isReg ?_); (first | refine awp_textM htb hmz noSp (fun _ => false) rfl rfl ?_ | refine awp_drawM hmo htb hmz noSp (fun _ => false) rfl rfl (by kernel_rfl) ?_); intro m' e' l' ob h; simp only [zE0, zE1, zE2, zE3, zE4, zE5, evp, evx, ev1, evLoad, evStore, evBin, isBoolK, forall_const, z38, tb, Nat.reduceAdd, Nat.reduceSub, Nat.reduceMul, Nat.reduceEqDiff, Nat.reduceLeDiff, Nat.reduceLT, Nat.reduceBEq, Nat.reduceBNe, ↓reduceIte, reduceIte] at h; obtain ⟨rfl, rfl, rfl, rfl⟩ := h; refine ⟨?_, ?_⟩)
    | ((with_reducible refine Ob.mk ?_); first | exact trivial | (intros; omega) | ((repeat' first | apply And.intro | (intro hg; have hg' := hg; try simp only [zH] at hg')) <;> first | assumption | omega | (simp only [zH]; omega)))
  refine fin_ret rfl rfl (spec_flat rfl ?_ rfl)
  rfl
def awk13S : Spec
  | [] => some ⟨True, .bool true, none⟩
  | _ => none
noncomputable def spAz : Nat → Option Spec
  | 22 => some exS
  | 14 => some listS
  | _ => none
theorem spAz_ok : SpOK Try.prog spAz := by
  intro f S h
  unfold spAz at h
  split at h
  · cases h; exact ex_ok
  · cases h; exact list_ok
  · cases h
set_option maxRecDepth 4000 in
set_option maxHeartbeats 4000000 in
theorem awk13_ok : FSpec Try.prog 9 awk13S := by
  refine fspec_of htb (fn := Try.f9) (by kernel_rfl) (by kernel_rfl) rfl (fun args r hS => ?_) (fun args r hS hob hl => ?_)
  · unfold awk13S at hS; split at hS <;> first | (cases hS; done) | (cases hS; exact Nat.le_of_ble_eq_true rfl)
  unfold awk13S at hS
  split at hS
  case h_2 => cases hS
  simp only [Option.some.injEq] at hS
  subst hS
  repeat' first
    | with_reducible first | refine awp_seq ?_ | refine awp_block ?_ | refine next_then ?_ | refine next_block ?_ | refine exit_then ?_ | refine ret_then ?_ | refine ret_block ?_ | refine exit_here ?_ | refine awp_exit ?_ | refine awp_ret ?_ | refine awp_skip ?_ | refine awp_label ?_ | refine next_noGoto ?_ | refine ret_noGoto ?_ | refine exit_noGoto ?_ | refine awp_scope ?_
    | ((with_reducible refine exit_past ?_ ?_); exact rfl)
    | ((with_reducible refine isCond ?_); refine awp_condO rfl ?_ ?_ <;> intro hb <;> (try simp only [zH] at hb))
    | ((with_reducible refine isRegS 1 ?_ ?_); (· exact rfl); (first | refine awp_textM htb hmz spAz_ok (fun _ => false) rfl rfl ?_ | refine awp_drawM hmo htb hmz spAz_ok (fun _ => false) rfl rfl (by kernel_rfl) ?_); intro m' e' l' ob h; simp only [zE0, zE1, zE2, zE3, zE4, zE5, evp, evx, ev1, evLoad, evStore, evBin, isBoolK, forall_const, z38, tb, Nat.reduceAdd, Nat.reduceSub, Nat.reduceMul, Nat.reduceEqDiff, Nat.reduceLeDiff, Nat.reduceLT, Nat.reduceBEq, Nat.reduceBNe, ↓reduceIte, reduceIte, spAz, exS, listS] at h; obtain ⟨rfl, rfl, rfl, rfl⟩ := h; refine ⟨?_, ?_⟩)
    | ((with_reducible refine Ob.mk ?_); first | exact trivial | (intros; omega) | ((repeat' first | apply And.intro | (intro hg; have hg' := hg; try simp only [zH] at hg')) <;> first | assumption | omega | (simp only [zH]; omega)))
  refine awp_cut ([_]) ([_, _, _, _, _, _]) rfl rfl ?_
  refine awpL_text htb hmz spAz_ok (fun _ => false) rfl rfl rfl ?_; intro m' e' l' ob h; simp only [zE0, zE1, zE2, zE3, zE4, zE5, evp, evx, ev1, evLoad, evStore, evBin, isBoolK, forall_const, z38, tb, Nat.reduceAdd, Nat.reduceSub, Nat.reduceMul, Nat.reduceEqDiff, Nat.reduceLeDiff, Nat.reduceLT, Nat.reduceBEq, Nat.reduceBNe, ↓reduceIte, reduceIte, spAz, exS, listS] at h; obtain ⟨rfl, rfl, rfl, rfl⟩ := h; refine ⟨?_, next_then ?_⟩
  · first | ((with_reducible refine Ob.mk ?_); first | exact trivial | (intros; omega) | ((repeat' first | apply And.intro | (intro hg; have hg' := hg; try simp only [zH] at hg')) <;> first | (with_reducible exact True.intro) | assumption | omega | (simp only [zH]; omega))) | skip
  refine awpL_callG ([]) (zsolve_fg) rfl rfl rfl rfl rfl rfl rfl rfl rfl (by simp only [rinR, rhoC, zE0, zE1, zE2, zE3, zE4, zE5, evp, evx, ev1, evLoad, evStore, evBin, isBoolK, forall_const, z38, tb, Nat.reduceAdd, Nat.reduceSub, Nat.reduceMul, Nat.reduceEqDiff, Nat.reduceLeDiff, Nat.reduceLT, Nat.reduceBEq, Nat.reduceBNe, ↓reduceIte, reduceIte, spAz, exS, listS]) ?_; intro gm gv gr hq m' e' l' h; obtain ⟨W1, C1, e1, hZ1, hq⟩ := hq; simp only [GR.mk.injEq] at hq; obtain ⟨rfl, rfl, rfl⟩ := hq; simp only [rhoC, outR, renR, dels, zE0, zE1, zE2, zE3, zE4, zE5, evp, evx, ev1, evLoad, evStore, evBin, isBoolK, forall_const, z38, tb, Nat.reduceAdd, Nat.reduceSub, Nat.reduceMul, Nat.reduceEqDiff, Nat.reduceLeDiff, Nat.reduceLT, Nat.reduceBEq, Nat.reduceBNe, ↓reduceIte, reduceIte, spAz, exS, listS] at h; obtain ⟨rfl, rfl, rfl⟩ := h; refine next_then ?_
  obtain ⟨rfl, rfl, rfl⟩ := zs_ex1 hZ1
  refine awpL_text htb hmz spAz_ok (fun _ => false) rfl rfl rfl ?_; intro m' e' l' ob h; simp only [zE0, zE1, zE2, zE3, zE4, zE5, evp, evx, ev1, evLoad, evStore, evBin, isBoolK, forall_const, z38, tb, Nat.reduceAdd, Nat.reduceSub, Nat.reduceMul, Nat.reduceEqDiff, Nat.reduceLeDiff, Nat.reduceLT, Nat.reduceBEq, Nat.reduceBNe, ↓reduceIte, reduceIte, spAz, exS, listS] at h; obtain ⟨rfl, rfl, rfl, rfl⟩ := h; refine ⟨?_, ?_⟩
  · first | ((with_reducible refine Ob.mk ?_); first | exact trivial | (intros; omega) | ((repeat' first | apply And.intro | (intro hg; have hg' := hg; try simp only [zH] at hg')) <;> first | (with_reducible exact True.intro) | assumption | omega | (simp only [zH]; omega))) | skip
  refine next_then (awp_seq ?_)
  refine awp_cut ([_, _, _, _, _]) ([_, _, _, _, _, _]) rfl rfl ?_
  refine awpL_text htb hmz spAz_ok (fun _ => false) rfl rfl rfl ?_; intro m' e' l' ob h; simp only [zE0, zE1, zE2, zE3, zE4, zE5, evp, evx, ev1, evLoad, evStore, evBin, isBoolK, forall_const, z38, tb, Nat.reduceAdd, Nat.reduceSub, Nat.reduceMul, Nat.reduceEqDiff, Nat.reduceLeDiff, Nat.reduceLT, Nat.reduceBEq, Nat.reduceBNe, ↓reduceIte, reduceIte, spAz, exS, listS] at h; obtain ⟨rfl, rfl, rfl, rfl⟩ := h; refine ⟨?_, next_then ?_⟩
  · first | ((with_reducible refine Ob.mk ?_); first | exact trivial | (intros; omega) | ((repeat' first | apply And.intro | (intro hg; have hg' := hg; try simp only [zH] at hg')) <;> first | (with_reducible exact True.intro) | assumption | omega | (simp only [zH]; omega))) | skip
  refine awpL_callG ([]) (zsolve_fg) rfl rfl rfl rfl rfl rfl rfl rfl rfl (by simp only [rinR, rhoC, zE0, zE1, zE2, zE3, zE4, zE5, evp, evx, ev1, evLoad, evStore, evBin, isBoolK, forall_const, z38, tb, Nat.reduceAdd, Nat.reduceSub, Nat.reduceMul, Nat.reduceEqDiff, Nat.reduceLeDiff, Nat.reduceLT, Nat.reduceBEq, Nat.reduceBNe, ↓reduceIte, reduceIte, spAz, exS, listS]) ?_; intro gm gv gr hq m' e' l' h; obtain ⟨W2, C2, e2, hZ2, hq⟩ := hq; simp only [GR.mk.injEq] at hq; obtain ⟨rfl, rfl, rfl⟩ := hq; simp only [rhoC, outR, renR, dels, zE0, zE1, zE2, zE3, zE4, zE5, evp, evx, ev1, evLoad, evStore, evBin, isBoolK, forall_const, z38, tb, Nat.reduceAdd, Nat.reduceSub, Nat.reduceMul, Nat.reduceEqDiff, Nat.reduceLeDiff, Nat.reduceLT, Nat.reduceBEq, Nat.reduceBNe, ↓reduceIte, reduceIte, spAz, exS, listS] at h; obtain ⟨rfl, rfl, rfl⟩ := h; refine next_then ?_
  obtain ⟨rfl, rfl, rfl⟩ := zs_ex2 hZ2
  refine awpL_text htb hmz spAz_ok (fun _ => false) rfl rfl rfl ?_; intro m' e' l' ob h; simp only [zE0, zE1, zE2, zE3, zE4, zE5, evp, evx, ev1, evLoad, evStore, evBin, isBoolK, forall_const, z38, tb, Nat.reduceAdd, Nat.reduceSub, Nat.reduceMul, Nat.reduceEqDiff, Nat.reduceLeDiff, Nat.reduceLT, Nat.reduceBEq, Nat.reduceBNe, ↓reduceIte, reduceIte, spAz, exS, listS] at h; obtain ⟨rfl, rfl, rfl, rfl⟩ := h; refine ⟨?_, ?_⟩
  · first | ((with_reducible refine Ob.mk ?_); first | exact trivial | (intros; omega) | ((repeat' first | apply And.intro | (intro hg; have hg' := hg; try simp only [zH] at hg')) <;> first | (with_reducible exact True.intro) | assumption | omega | (simp only [zH]; omega))) | skip
  repeat' first
    | with_reducible first | refine awp_seq ?_ | refine awp_block ?_ | refine next_then ?_ | refine next_block ?_ | refine exit_then ?_ | refine ret_then ?_ | refine ret_block ?_ | refine exit_here ?_ | refine awp_exit ?_ | refine awp_ret ?_ | refine awp_skip ?_ | refine awp_label ?_ | refine next_noGoto ?_ | refine ret_noGoto ?_ | refine exit_noGoto ?_ | refine awp_scope ?_
    | ((with_reducible refine exit_past ?_ ?_); exact rfl)
    | ((with_reducible refine isCond ?_); refine awp_condO rfl ?_ ?_ <;> intro hb <;> (try simp only [zH] at hb))
    | ((with_reducible refine isReg ?_); (first | refine awp_textM htb hmz spAz_ok (fun _ => false) rfl rfl ?_ | refine awp_drawM hmo htb hmz spAz_ok (fun _ => false) rfl rfl (by kernel_rfl) ?_); intro m' e' l' ob h; simp only [zE0, zE1, zE2, zE3, zE4, zE5, evp, evx, ev1, evLoad, evStore, evBin, isBoolK, forall_const, z38, tb, Nat.reduceAdd, Nat.reduceSub, Nat.reduceMul, Nat.reduceEqDiff, Nat.reduceLeDiff, Nat.reduceLT, Nat.reduceBEq, Nat.reduceBNe, ↓reduceIte, reduceIte, spAz, exS, listS] at h; obtain ⟨rfl, rfl, rfl, rfl⟩ := h; refine ⟨?_, ?_⟩)
    | ((with_reducible refine Ob.mk ?_); first | exact trivial | (intros; omega) | ((repeat' first | apply And.intro | (intro hg; have hg' := hg; try simp only [zH] at hg')) <;> first | assumption | omega | (simp only [zH]; omega)))
  refine fin_ret rfl rfl (spec_flat rfl ?_ rfl)
  rfl
end Go.Proofs.Ytlckljphakkomaa.Cal
