/- Own texts, merged. -/
import Derived.RecoverIn
import Derived.RangeFuncLeaves
import Derived.Test.YtdhoadhkkecjjaaDoorS11
set_option linter.unusedVariables false
set_option linter.unusedSimpArgs false
open Nat (reduceAdd reduceSub reduceMul reduceEqDiff reduceLeDiff reduceLT)
namespace Go.Proofs.YtdhoadhkkecjjaaDoor.Cal
open Go
section
variable {P : Program} {ro : Option Nat} {N κ : Nat} {tb : Nat → Option TI}
def awpG (P : Program) (ro : Option Nat) (N κ : Nat) (ops : Array Oper) (l : List Oper) (σ : St) (Q : Exit → St → Prop) : Prop :=
  ∀ n K Z ν w a, Good K Z N w ν σ a → wpListIn (FF ro) n P ops (Post N κ K Z w ν Q) l a w
theorem awp_listG {id : Nat} {l : List Oper} {σ : St} {Q : Exit → St → Prop} (h : awpG P ro N κ l.toArray l σ Q) : awp P ro N κ (.region id l.toArray false) σ Q :=
  fun n K Z ν w a hg => wpIn_region_lit (h n K Z ν w a hg)
theorem awpG_nil {ops : Array Oper} {σ : St} {Q : Exit → St → Prop} (h : Q .normal σ) : awpG P ro N κ ops [] σ Q := fun n K Z ν w a hg => Zcn hg h
def noGd (o : Oper) : Oper := { o with guard := none }
theorem tmp_bool {K Z : Nat → Prop} {w : World} {ν : Nat → Value} {σ : St} {a : Act} {d : Nat} {b : Bool} (hg : Good K Z N w ν σ a) (h : σ.env d = .bool b) : a.tmps[d]? = some (.bool b) := by
  have := (hg.env d).2
  rw [h] at this
  have h2 : a.tmps.getD d undef = .bool b := one1 this
  rw [Array.getD_eq_getD_getElem?] at h2
  cases e : a.tmps[d]? with
  | none => rw [e] at h2; cases h2
  | some v => rw [e] at h2; simp only [Option.getD_some] at h2; rw [h2]
theorem wanted_of {K Z : Nat → Prop} {w : World} {ν : Nat → Value} {σ : St} {a : Act} {ops : Array Oper} {o oi : Oper} {i d : Nat} {b v : Bool} (hg : Good K Z N w ν σ a) (ho : o.guard = some (i, b)) (hi : ops[i]? = some oi) (hd : oi.dst = some d) (h : σ.env d = .bool v) : Region.wanted o (yielded ops a.tmps) = (v == b) := by
  have e : yielded ops a.tmps i = some v := by
    unfold yielded
    rw [hi]
    simp only [Option.bind_some, hd, tmp_bool hg h]
  unfold Region.wanted
  rw [ho]
  simp only [e]
  cases v <;> cases b <;> rfl
end
open Go
section
variable {P : Program} {ro : Option Nat} {N κ : Nat} {tb : Nat → Option TI} {sp : Nat → Option Spec} {ops : Array Oper}
def awpD (P : Program) (ro : Option Nat) (N κ : Nat) (ops : Array Oper) (k : Nat) (σ : St) (Q : Exit → St → Prop) : Prop :=
  ∀ n K Z ν w a, Good K Z N w ν σ a → ∀ (fuel : Nat) (listed : Array Bool), listed.size = ops.size → (∀ i, i < k → listed.getD i true = true) → (∀ i, k ≤ i → i < ops.size → listed.getD i true = false) → ops.size - k ≤ fuel →
    wpAnyIn (FF ro) n P .any ops (Post N κ K Z w ν Q) fuel listed a w
def Zid (ops : List Oper) : Bool :=
  let A := ancs ops []
  (List.range ops.length).all fun i =>
    ((A.getD i []).all fun j => match ops[i]? with | some o => (Zbt o).any (fun p => Nat.beq p j || ((A.getD p []).any fun q => Nat.beq q j)) && Nat.blt j i | none => false) &&
    (match ops[i]? with | some o => (Zbt o).all fun p => Nat.blt p i | none => false)
def Ziv (ops : List Oper) (k n : Nat) (l : List Item) : Bool :=
  let A := ancs ops []
  ((List.range n).all fun i => (List.range i).all fun j => ((A.getD (k + i) []).any fun q => Nat.beq q (k + j)) || Zgu (Zbm l j) (Zbm l i)) &&
  ((List.range (ops.length - (k + n))).all fun i => (List.range n).all fun j => (A.getD (k + n + i) []).any fun q => Nat.beq q (k + j))
structure AncOK (ops : Array Oper) : Prop where
  up : ∀ i, i < ops.size → ∀ o, ops[i]? = some o → (∀ j, j ∈ (ancs ops.toList []).getD i [] → (∃ p, p ∈ Zbt o ∧ (p = j ∨ j ∈ (ancs ops.toList []).getD p [])) ∧ j < i) ∧ (∀ p, p ∈ Zbt o → p < i)
theorem Zhy (hc : Zid ops.toList = true) : AncOK ops := by
  refine ⟨fun i hi o ho => ?_⟩
  simp only [Zid, List.all_eq_true, List.mem_range, Bool.and_eq_true, Array.length_toList] at hc
  obtain ⟨h1, h2⟩ := hc i hi
  have ho' : ops.toList[i]? = some o := by simpa using ho
  rw [ho'] at h1 h2
  simp only [List.all_eq_true, Nat.blt_eq] at h2
  refine ⟨fun j hj => ?_, h2⟩
  have := h1 j hj
  simp only [Bool.and_eq_true, List.any_eq_true, Bool.or_eq_true, Nat.blt_eq] at this
  obtain ⟨⟨p, hp, hpj⟩, hlt⟩ := this
  refine ⟨⟨p, hp, ?_⟩, hlt⟩
  rcases hpj with h | ⟨q, hq, h⟩
  · exact .inl (Nat.eq_of_beq_eq_true h)
  · exact .inr (Nat.eq_of_beq_eq_true h ▸ hq)
def Zgp (ops : Array Oper) (listed : Array Bool) : Prop := ∀ i o, ops[i]? = some o → listed.getD i true = true → ∀ p, p ∈ Zbt o → listed.getD p true = true
theorem Zcj (hA : AncOK ops) {listed : Array Bool} (hcl : Zgp ops listed) : ∀ i, i < ops.size → ∀ o, ops[i]? = some o → (∀ p, p ∈ Zbt o → listed.getD p true = true) → ∀ j, j ∈ (ancs ops.toList []).getD i [] → listed.getD j true = true := by
  intro i
  induction i using Nat.strongRecOn with
  | _ i ih =>
    intro hi o ho hp j hj
    obtain ⟨⟨p, hpm, hpj⟩, hlt⟩ := (hA.up i hi o ho).1 j hj
    rcases hpj with rfl | hpj
    · exact hp p hpm
    · have hpi := (hA.up i hi o ho).2 p hpm
      have hps : p < ops.size := by omega
      exact ih p hpi hps ops[p] (Array.getElem?_eq_getElem hps) (hcl p _ (Array.getElem?_eq_getElem hps) (hp p hpm)) j hpj
theorem Zce {listed : Array Bool} {i : Nat} (hi : i ∈ Region.ready .any ops listed) : i < ops.size ∧ listed.getD i true = false ∧ ∀ o, ops[i]? = some o → ∀ p, p ∈ Zbt o → listed.getD p true = true := by
  simp only [Region.ready, List.mem_filter, List.mem_range, Bool.and_eq_true, Bool.not_eq_true'] at hi
  obtain ⟨h1, h2, h3⟩ := hi
  refine ⟨h1, h2, fun o ho p hp => ?_⟩
  rw [ho] at h3
  simp only [Option.map_some, Option.getD_some] at h3
  simp only [Zbt, List.mem_map, List.mem_filter] at hp
  obtain ⟨e, ⟨he, hb⟩, rfl⟩ := hp
  have := (Array.all_eq_true_iff_forall_mem.1 h3) e (by simpa using he)
  rw [hb] at this
  simp only [Bool.not_true, Bool.false_or] at this
  cases hg : listed[e.on]? with
  | none => simp [Array.getD_eq_getD_getElem?, hg]
  | some x => simp [Array.getD_eq_getD_getElem?, hg] at this ⊢; exact this
theorem Zen {listed : Array Bool} {i : Nat} {o : Oper} (ho : ops[i]? = some o) (hl : listed.getD i true = false) (hp : ∀ p, p ∈ Zbt o → p < listed.size ∧ listed.getD p true = true) : i ∈ Region.ready .any ops listed := by
  have hi : i < ops.size := (Array.getElem?_eq_some_iff.1 ho).1
  simp only [Region.ready, List.mem_filter, List.mem_range, Bool.and_eq_true, Bool.not_eq_true']
  refine ⟨hi, hl, ?_⟩
  rw [ho]
  simp only [Option.map_some, Option.getD_some]
  refine Array.all_eq_true_iff_forall_mem.2 fun e he => ?_
  cases hb : Region.binds .any e with
  | false => rfl
  | true =>
    obtain ⟨h1, h2⟩ := hp e.on (List.mem_map.2 ⟨e, List.mem_filter.2 ⟨by simpa using he, hb⟩, rfl⟩)
    simp [Array.getD_eq_getD_getElem?, Array.getElem?_eq_getElem h1] at h2 ⊢
    exact h2
theorem Zc9 {listed : Array Bool} {i j : Nat} (hi : i < listed.size) : ((listed.setIfInBounds i true).getD j true = true ↔ (j = i ∨ listed.getD j true = true)) := by
  simp only [Array.getD_eq_getD_getElem?, Array.getElem?_setIfInBounds]
  by_cases h : i = j
  · subst h; simp [hi]
  · simp [h, Ne.symm h]
theorem Ze6 {listed : Array Bool} {i j : Nat} (hi : i < listed.size) : ((listed.setIfInBounds i true).getD j true = false ↔ (j ≠ i ∧ listed.getD j true = false)) := by
  have := Zc9 (j := j) hi
  cases h : (listed.setIfInBounds i true).getD j true with
  | true =>
    simp only [h, true_iff] at this
    refine ⟨fun hh => (by cases hh), fun hh => ?_⟩
    rcases this with e | e
    · exact absurd e hh.1
    · rw [e] at hh; exact absurd hh.2 (by simp)
  | false =>
    rw [h] at this
    simp only [Bool.false_eq_true, false_iff, not_or] at this
    exact ⟨fun _ => ⟨this.1, by cases hx : listed.getD j true with | false => rfl | true => exact absurd hx this.2⟩, fun _ => rfl⟩
theorem run_seg {Q : Exit → St → Prop} {σ' : St} (k n' : Nat) (hkn : k + n' ≤ ops.size) (l : List Item) (hA : Zid ops.toList = true) (hc : Ziv ops.toList k n' l = true) (hop : ∀ i, i < n' → ∃ o, ops[k + i]? = some o ∧ Zho P ro N ops o (Zbm l i)) (hend : awpD P ro N κ ops (k + n') σ' Q) :
    ∀ (fuel : Nat) (listed : Array Bool) (L : List Nat) (σ : St), listed.size = ops.size → L.length + (ops.size - (k + n')) ≤ fuel → (∀ i, i ∈ L ↔ (k ≤ i ∧ i < k + n') ∧ listed.getD i true = false) → (∀ i, i < k → listed.getD i true = true) → (∀ i, k + n' ≤ i → i < ops.size → listed.getD i true = false) → L.Pairwise (· < ·) →
      Zgp ops listed → Zir κ σ → Zct N (fun x => Zbm l (x - k)) L σ σ' → ∀ n K Z ν w a, Good K Z N w ν σ a → wpAnyIn (FF ro) n P .any ops (Post N κ K Z w ν Q) fuel listed a w := by
  have hA := Zhy hA
  simp only [Ziv, Bool.and_eq_true, List.all_eq_true, List.mem_range, Bool.or_eq_true, List.any_eq_true, Array.length_toList] at hc
  obtain ⟨hc1, hc2⟩ := hc
  have hap0 : ∀ i j, k ≤ j → j < i → i < k + n' → j ∈ (ancs ops.toList []).getD i [] ∨ Apart (Zbm l (j - k)) (Zbm l (i - k)) := by
    intro i j h1 h2 h3
    have := hc1 (i - k) (by omega) (j - k) (by omega)
    rw [show k + (i - k) = i from by omega, show k + (j - k) = j from by omega] at this
    rcases this with ⟨q, hq, h⟩ | h
    · exact .inl (Nat.eq_of_beq_eq_true h ▸ hq)
    · exact .inr (Zf6 h)
  have hlate : ∀ i j, k ≤ j → j < k + n' → k + n' ≤ i → i < ops.size → j ∈ (ancs ops.toList []).getD i [] := by
    intro i j h1 h2 h3 h4
    obtain ⟨q, hq, h⟩ := hc2 (i - (k + n')) (by omega) (j - k) (by omega)
    rw [show k + n' + (i - (k + n')) = i from by omega] at hq
    rw [show k + (j - k) = j from by omega] at h
    exact Nat.eq_of_beq_eq_true h ▸ hq
  intro fuel
  induction fuel with
  | zero =>
    intro listed L σ hsz hlen hL hlo hhi hpw hcl hh hr n K Z ν w a hg
    obtain rfl : L = [] := List.eq_nil_of_length_eq_zero (by omega)
    obtain rfl : σ = σ' := hr
    refine hend n K Z ν w a hg 0 listed hsz (fun i hi => ?_) hhi (by simpa using hlen)
    by_cases hik : i < k
    · exact hlo i hik
    · cases h : listed.getD i true with
      | true => rfl
      | false => exact absurd ((hL i).2 ⟨⟨by omega, hi⟩, h⟩) (by simp)
  | succ fuel ih =>
    intro listed L σ hsz hlen hL hlo hhi hpw hcl hh hr n K Z ν w a hg
    cases hLe : L with
    | nil =>
      subst hLe
      obtain rfl : σ = σ' := hr
      refine hend n K Z ν w a hg _ listed hsz (fun i hi => ?_) hhi (by simpa using hlen)
      by_cases hik : i < k
      · exact hlo i hik
      · cases h : listed.getD i true with
        | true => rfl
        | false => exact absurd ((hL i).2 ⟨⟨by omega, hi⟩, h⟩) (by simp)
    | cons i0 L0 =>
    refine ⟨fun hnil => ?_, fun i hi => ?_⟩
    · exfalso
      rw [hLe] at hL hpw
      obtain ⟨⟨hi1, hi2⟩, hl⟩ := (hL i0).1 List.mem_cons_self
      have hs : i0 < ops.size := by omega
      have : i0 ∈ Region.ready .any ops listed := Zen (Array.getElem?_eq_getElem hs) hl fun p hp => by
        have hpi := (hA.up i0 hs _ (Array.getElem?_eq_getElem hs)).2 p hp
        refine ⟨by omega, ?_⟩
        cases hpl : listed.getD p true with
        | true => rfl
        | false =>
          by_cases hpk : p < k
          · rw [hlo p hpk] at hpl; cases hpl
          have hmem := (hL p).2 ⟨⟨by omega, by omega⟩, hpl⟩
          rcases List.mem_cons.1 hmem with rfl | hmem
          · omega
          · have := List.rel_of_pairwise_cons hpw hmem; omega
      rw [hnil] at this
      cases this
    · obtain ⟨h1, h2, h3⟩ := Zce hi
      have hik : k ≤ i := by
        rcases Nat.lt_or_ge i k with h | h
        · rw [hlo i h] at h2; cases h2
        · exact h
      have hin : i < k + n' := by
        rcases Nat.lt_or_ge i (k + n') with h | h
        · exact h
        · exfalso
          rw [hLe] at hL
          obtain ⟨⟨b1, b2⟩, b3⟩ := (hL i0).1 List.mem_cons_self
          have := Zcj hA hcl i h1 _ (Array.getElem?_eq_getElem h1) (h3 _ (Array.getElem?_eq_getElem h1)) i0 (hlate i i0 b1 b2 h h1)
          rw [this] at b3; cases b3
      obtain ⟨o, ho, hrun⟩ := hop (i - k) (by omega)
      rw [show k + (i - k) = i from by omega] at ho
      have hiL := (hL i).2 ⟨⟨hik, hin⟩, h2⟩
      clear hLe
      obtain ⟨A, B, rfl⟩ := List.append_of_mem hiL
      have hA1 : ∀ j, j ∈ A → j < i := fun j hj => by
        rw [List.pairwise_append] at hpw
        exact hpw.2.2 j hj i List.mem_cons_self
      have hap : ∀ j, j ∈ A → Apart (Zbm l (j - k)) (Zbm l (i - k)) := by
        intro j hj
        have hjL := (hL j).1 (List.mem_append_left _ hj)
        rcases hap0 i j hjL.1.1 (hA1 j hj) hin with h | h
        · have hd := Zcj hA hcl i h1 o ho (h3 o ho) j h
          rw [hd] at hjL
          cases hjL.2
        · exact h
      obtain ⟨f1, r1⟩ := Zeo A σ σ' hap hr
      unfold wpOpIn
      simp only [ho]
      refine hrun n K Z ν w a σ hg f1 _ _ ?_
      intro Z1 ν1 w1 a1 hs hν hg1
      have hi2 : i < listed.size := by omega
      have hnd : i ∉ A ∧ i ∉ B := by
        have hne : (A ++ i :: B).Pairwise (· ≠ ·) := hpw.imp fun h => Nat.ne_of_lt h
        rw [List.pairwise_append] at hne
        exact ⟨fun h => hne.2.2 i h i List.mem_cons_self rfl, fun h => List.rel_of_pairwise_cons hne.2.1 h rfl⟩
      have := ih (listed.setIfInBounds i true) (A ++ B) _ (by simpa using hsz) (by simp at hlen ⊢; omega) (fun j => ?_) (fun j hj => (Zc9 hi2).2 (.inr (hlo j hj))) (fun j hj1 hj2 => (Ze6 hi2).2 ⟨by omega, hhi j hj1 hj2⟩) ?_ ?_ (Zef hh) r1 n _ _ ν1 w1 a1 hg1
      · exact run_any.wpAnyIn_mono' this fun e a' w' hp => hp.trans hs (fun k hk => hν k (hh k hk))
      · rw [Ze6 hi2]
        constructor
        · intro hj
          have hj' : j ∈ A ++ i :: B := by
            rcases List.mem_append.1 hj with h | h
            · exact List.mem_append_left _ h
            · exact List.mem_append_right _ (List.mem_cons_of_mem _ h)
          obtain ⟨q1, q2⟩ := (hL j).1 hj'
          refine ⟨q1, ?_, q2⟩
          rintro rfl
          rcases List.mem_append.1 hj with h | h
          · exact hnd.1 h
          · exact hnd.2 h
        · rintro ⟨q1, q2, q3⟩
          have := (hL j).2 ⟨q1, q3⟩
          rcases List.mem_append.1 this with h | h
          · exact List.mem_append_left _ h
          · rcases List.mem_cons.1 h with h | h
            · exact absurd h q2
            · exact List.mem_append_right _ h
      · exact hpw.sublist (List.Sublist.append (List.Sublist.refl A) (List.sublist_cons_self i B))
      · intro j oj hoj hlj p hp
        rw [Zc9 hi2]
        rcases (Zc9 hi2).1 hlj with rfl | h
        · exact .inr (h3 oj hoj p hp)
        · exact .inr (hcl j oj hoj h p hp)
theorem closed_of {k : Nat} {listed : Array Bool} (hA : AncOK ops) (h1 : ∀ i, i < k → listed.getD i true = true) (h2 : ∀ i, k ≤ i → i < ops.size → listed.getD i true = false) : Zgp ops listed := by
  intro i o ho hl p hp
  have hi : i < ops.size := (Array.getElem?_eq_some_iff.1 ho).1
  have hik : i < k := by
    rcases Nat.lt_or_ge i k with h | h
    · exact h
    · rw [h2 i h hi] at hl; cases hl
  exact h1 p (Nat.lt_trans ((hA.up i hi o ho).2 p hp) hik)
theorem awpD_text (htb : Zcz P tb) (hmz : ∀ t i, tb t = some i → men noK i.zero = true) (hsp : SpOK P sp) (ch : Nat → Bool) (k : Nat) {m : Nat} {all os post : List Oper} (pre : List Oper) {env : List (Nat × AV)} {l : List (Nat × Option Blk)} {ms : List Nat} {Q : Exit → St → Prop} (hall : all = pre ++ (os ++ post)) (hk : pre.length = k) (hN : Zdj N os = true) (hκ : Nat.ble κ m = true) (hA : Zid all = true)
    (hd : Ziv all k os.length (Zbv tb sp ch m all os k env l).its = true)
    (h : ∀ m' e' l' ob, evOut tb sp ch m all os k ⟨m + k, env, l, True⟩ = ⟨m', e', l', ob⟩ → Ob ob ∧ awpD P ro N κ all.toArray (k + os.length) (CS.st ⟨m', e', l', ms⟩) Q) : awpD P ro N κ all.toArray k (CS.st ⟨m + k, env, l, ms⟩) Q := by
  obtain ⟨hob, hq⟩ := h _ _ _ _ rfl
  obtain ⟨h1, h2, h3, h4⟩ := Zd5 ch m all os k (m + k) env l True hob
  rw [h1, h2, h4] at hq
  obtain ⟨g1, g2, μ', g3, g4, g5⟩ := Zd6 (ro := ro) (N := N) htb hmz hsp ch m all ms os k env l (ltK (m + k)) hN (fun j hj => by show Nat.blt j (m + k) = false; cases hb : Nat.blt j (m + k) with | false => rfl | true => rw [Nat.blt_eq] at hb; omega) h3
  have hsize : k + os.length ≤ all.toArray.size := by rw [List.size_toArray, hall]; simp; omega
  intro n K Z ν w a hg fuel listed hsz hlo hhi hfuel
  refine run_seg k os.length hsize (Zbv tb sp ch m all os k env l).its (by simpa using hA) (by simpa using hd) (fun i hi => ?_) (σ' := ⟨μ', lke (Zbv tb sp ch m all os k env l).env, lkr (Zbv tb sp ch m all os k env l).l, ms⟩) ?_ fuel listed (List.range' k os.length) (CS.st ⟨m + k, env, l, ms⟩) hsz (by rw [List.length_range']; omega) (fun i => ?_) hlo (fun i hi => hhi i (by omega)) (by simpa using List.pairwise_lt_range' (s := k) (n := os.length)) (closed_of (Zhy (by simpa using hA)) hlo hhi) (fun j hj => ?_) g5 n K Z ν w a hg
  · refine ⟨os[i], ?_, g2 _ _ (List.getElem?_eq_getElem hi)⟩
    rw [List.getElem?_toArray, hall, List.getElem?_append_right (by omega), hk, show k + i - k = i from by omega, List.getElem?_append_left hi, List.getElem?_eq_getElem hi]
  · intro n K Z ν w a hg
    refine hq n K Z ν w a (hg.widen fun j hj => ?_)
    show Nat.blt j (m + k + os.length) = true
    rw [Nat.blt_eq]
    rcases Nat.lt_or_ge j (m + k + os.length) with h | h
    · exact h
    · rw [g3 j h] at hj; cases hj
  · rw [List.mem_range']
    constructor
    · rintro ⟨q, hq, rfl⟩
      exact ⟨⟨by omega, by omega⟩, hhi _ (by omega) (by rw [List.size_toArray, hall]; simp; omega)⟩
    · rintro ⟨⟨h1, h2⟩, _⟩
      exact ⟨i - k, by omega, by omega⟩
  · show Nat.blt j (m + k) = true
    rw [Nat.blt_eq]
    have := Nat.le_of_ble_eq_true hκ
    omega
theorem awpD_end {k : Nat} {σ : St} {Q : Exit → St → Prop} (hk : Nat.beq k ops.size = true) (h : Q .normal σ) : awpD P ro N κ ops k σ Q := by
  obtain rfl := Nat.eq_of_beq_eq_true hk
  intro n K Z ν w a hg fuel listed hsz hlo hhi hfuel
  have hn : Region.ready .any ops listed = [] := by
    refine List.eq_nil_iff_forall_not_mem.2 fun i hi => ?_
    obtain ⟨h1, h2, _⟩ := Zce hi
    rw [hlo i h1] at h2; cases h2
  cases fuel with
  | zero => exact ⟨hn, Zcn hg h⟩
  | succ fuel => exact ⟨fun _ => Zcn hg h, fun i hi => by rw [hn] at hi; cases hi⟩
theorem awp_drawD (hmo : P.follows .mixedOrders = true) {id : Nat} {σ : St} {Q : Exit → St → Prop} (h : awpD P ro N κ ops 0 σ Q) : awp P ro N κ (.region id ops true) σ Q := by
  intro n K Z ν w a hg
  refine wpIn_region_any hmo ?_
  have hstep : Step K Z w Z { w with drawn := w.drawn + 1 } := ⟨⟨rfl, rfl, rfl, Nat.le_refl _, fun _ _ => rfl⟩, fun _ h => h, fun _ h => .inl h⟩
  have hg1 := hg.drew (w.drawn + 1)
  refine run_any.wpAnyIn_mono' (h n K Z ν _ a hg1 ops.size (Array.replicate ops.size false) (by simp) (fun i hi => absurd hi (by omega)) (fun i _ hi => by simp [Array.getD_eq_getD_getElem?, Array.getElem?_replicate, hi]) (by omega)) fun e a' w' hp => ?_
  have e := Post.trans (N := N) (κ := κ) (K := K) (Z := Z) (w := w) (ν := ν) hstep (fun _ _ => rfl) (by rw [Zbp hg.zk]; exact hp)
  exact e
end
open Go
section
variable {P : Program} {ro : Option Nat} {N κ : Nat} {tb : Nat → Option TI} {sp : Nat → Option Spec} {ops : Array Oper}
def memB (D : List Nat) (i : Nat) : Bool := D.any fun j => Nat.beq j i
theorem memB_iff {D : List Nat} {i : Nat} : memB D i = true ↔ i ∈ D := by
  unfold memB
  rw [List.any_eq_true]
  exact ⟨fun ⟨j, h1, h2⟩ => Nat.eq_of_beq_eq_true h2 ▸ h1, fun h => ⟨i, h, Nat.beq_refl i⟩⟩
theorem memB_false {D : List Nat} {i : Nat} : memB D i = false ↔ i ∉ D := by
  cases h : memB D i with
  | true => simp [memB_iff.1 h]
  | false => exact ⟨fun _ hh => (by rw [memB_iff.2 hh] at h; cases h), fun _ => rfl⟩
def awpS (P : Program) (ro : Option Nat) (N κ : Nat) (ops : Array Oper) (D : List Nat) (σ : St) (Q : Exit → St → Prop) : Prop :=
  ∀ n K Z ν w a, Good K Z N w ν σ a → ∀ (fuel : Nat) (listed : Array Bool), listed.size = ops.size → (∀ i, i < ops.size → listed.getD i true = memB D i) → ops.size ≤ fuel + D.length →
    wpAnyIn (FF ro) n P .any ops (Post N κ K Z w ν Q) fuel listed a w
theorem Zft {D D' : List Nat} {σ : St} {Q : Exit → St → Prop} (hm : ∀ i, i ∈ D ↔ i ∈ D') (hl : D.length = D'.length) (h : awpS P ro N κ ops D σ Q) : awpS P ro N κ ops D' σ Q :=
  fun n K Z ν w a hg fuel listed h1 h2 h3 => h n K Z ν w a hg fuel listed h1 (fun i hi => by
    rw [h2 i hi]
    cases e : memB D i with
    | true => exact memB_iff.2 ((hm i).1 (memB_iff.1 e))
    | false => exact memB_false.2 fun hh => memB_false.1 e ((hm i).2 hh)) (by omega)
theorem run_set {Q : Exit → St → Prop} (hA : AncOK ops) {L0 : List Nat} {its : Nat → Item} (hop : ∀ i, i ∈ L0 → ∃ o, ops[i]? = some o ∧ Zho P ro N ops o (its i))
    (hap0 : ∀ i j, i ∈ L0 → j ∈ L0 → j < i → j ∈ (ancs ops.toList []).getD i [] ∨ Apart (its j) (its i)) :
    ∀ (fuel : Nat) (D L : List Nat) (σ σ' : St) (wd : Option (Nat × Item)) (listed : Array Bool), listed.size = ops.size → (∀ i, i < ops.size → listed.getD i true = memB D i) → (∀ i, i ∈ L → i ∈ L0) → L.Pairwise (· < ·) → (∀ i, i ∈ L → i < ops.size ∧ i ∉ D) →
      ops.size ≤ fuel + D.length → D.length + L.length + (match wd with | some _ => 1 | none => 0) ≤ ops.size → Zgp ops listed →
      (∀ i, i ∈ L → ∀ o, ops[i]? = some o → ∀ p, p ∈ Zbt o → p ∈ D ∨ p ∈ L) →
      (∀ i, i < ops.size → i ∉ D → i ∉ L → (∃ it, wd = some (i, it)) ∨ ∀ j, j ∈ L → j ∈ (ancs ops.toList []).getD i []) →
      (∀ x it, wd = some (x, it) → x < ops.size ∧ x ∉ D ∧ x ∉ L ∧ (∃ o, ops[x]? = some o ∧ Zho P ro N ops o it) ∧ Fits N it σ' ∧ ∀ j, j ∈ L → Apart (its j) it) →
      Zir κ σ → Zct N its L σ σ' → awpS P ro N κ ops (D ++ L) σ' Q → (∀ x it, wd = some (x, it) → awpS P ro N κ ops (D ++ L ++ [x]) (it.app σ') Q) →
      ∀ n K Z ν w a, Good K Z N w ν σ a → wpAnyIn (FF ro) n P .any ops (Post N κ K Z w ν Q) fuel listed a w := by
  intro fuel
  induction fuel with
  | zero =>
    intro D L σ σ' wd listed hsz hD hL0 hpw hLD hfuel hlen hcl hpr hoth hwd hh hr hend hendW n K Z ν w a hg
    obtain rfl : L = [] := List.eq_nil_of_length_eq_zero (by omega)
    obtain rfl : σ = σ' := hr
    rw [List.append_nil] at hend
    exact hend n K Z ν w a hg 0 listed hsz hD hfuel
  | succ fuel ih =>
    intro D L σ σ' wd listed hsz hD hL0 hpw hLD hfuel hlen hcl hpr hoth hwd hh hr hend hendW n K Z ν w a hg
    cases hLe : L with
    | nil =>
      subst hLe
      obtain rfl : σ = σ' := hr
      rw [List.append_nil] at hend
      exact hend n K Z ν w a hg _ listed hsz hD hfuel
    | cons i0 L1 =>
    have hi0 : i0 ∈ L := hLe ▸ List.mem_cons_self
    refine ⟨fun hnil => ?_, fun i hi => ?_⟩
    · exfalso
      obtain ⟨hs, hnd⟩ := hLD i0 hi0
      have : i0 ∈ Region.ready .any ops listed := Zen (Array.getElem?_eq_getElem hs) (by rw [hD i0 hs]; exact memB_false.2 hnd) fun p hp => by
        have hpi := (hA.up i0 hs _ (Array.getElem?_eq_getElem hs)).2 p hp
        refine ⟨by omega, ?_⟩
        rw [hD p (by omega)]
        rcases hpr i0 hi0 _ (Array.getElem?_eq_getElem hs) p hp with h | h
        · exact memB_iff.2 h
        · exfalso
          rw [hLe] at h hpw
          rcases List.mem_cons.1 h with rfl | h
          · omega
          · have := List.rel_of_pairwise_cons hpw h; omega
      rw [hnil] at this
      cases this
    · obtain ⟨h1, h2, h3⟩ := Zce hi
      have hnD : i ∉ D := memB_false.1 (by rw [← hD i h1]; exact h2)
      have hi2 : i < listed.size := by omega
      have hcl' : Zgp ops (listed.setIfInBounds i true) := fun j oj hoj hlj p hp => by
        rw [Zc9 hi2]
        rcases (Zc9 hi2).1 hlj with rfl | h
        · exact .inr (h3 oj hoj p hp)
        · exact .inr (hcl j oj hoj h p hp)
      have hD' : ∀ j, j < ops.size → (listed.setIfInBounds i true).getD j true = memB (D ++ [i]) j := fun j hj => by
        cases e : memB (D ++ [i]) j with
        | true =>
          refine (Zc9 hi2).2 ?_
          rcases List.mem_append.1 (memB_iff.1 e) with h | h
          · exact .inr (by rw [hD j hj]; exact memB_iff.2 h)
          · exact .inl (List.mem_singleton.1 h)
        | false =>
          have := memB_false.1 e
          rw [List.mem_append, List.mem_singleton, not_or] at this
          exact (Ze6 hi2).2 ⟨this.2, by rw [hD j hj]; exact memB_false.2 this.1⟩
      by_cases hiL : i ∈ L
      · obtain ⟨o, ho, hrun⟩ := hop i (hL0 i hiL)
        clear hLe hi0
        obtain ⟨A, B, rfl⟩ := List.append_of_mem hiL
        have hA1 : ∀ j, j ∈ A → j < i := fun j hj => by
          rw [List.pairwise_append] at hpw
          exact hpw.2.2 j hj i List.mem_cons_self
        have hap : ∀ j, j ∈ A → Apart (its j) (its i) := by
          intro j hj
          have hjL := List.mem_append_left (i :: B) hj
          rcases hap0 i j (hL0 i hiL) (hL0 j hjL) (hA1 j hj) with h | h
          · have hd := Zcj hA hcl i h1 o ho (h3 o ho) j h
            rw [hD j (hLD j hjL).1] at hd
            exact absurd (memB_iff.1 hd) (hLD j hjL).2
          · exact h
        obtain ⟨f1, r1⟩ := Zeo A σ σ' hap hr
        unfold wpOpIn
        simp only [ho]
        refine hrun n K Z ν w a σ hg f1 _ _ ?_
        intro Z1 ν1 w1 a1 hs hν hg1
        have hmem : ∀ j, j ∈ A ++ B → j ∈ A ++ i :: B := fun j hj => by
          rcases List.mem_append.1 hj with h | h
          · exact List.mem_append_left _ h
          · exact List.mem_append_right _ (List.mem_cons_of_mem _ h)
        have hnd : i ∉ A ++ B := by
          have hne : (A ++ i :: B).Pairwise (· ≠ ·) := hpw.imp fun h => Nat.ne_of_lt h
          rw [List.pairwise_append] at hne
          intro h
          rcases List.mem_append.1 h with h | h
          · exact hne.2.2 i h i List.mem_cons_self rfl
          · exact List.rel_of_pairwise_cons hne.2.1 h rfl
        have hperm : ∀ j, j ∈ D ++ (A ++ i :: B) ↔ j ∈ D ++ [i] ++ (A ++ B) := fun j => by
          simp only [List.mem_append, List.mem_cons, List.not_mem_nil, or_false]
          constructor
          · rintro (h | h | h | h)
            · exact .inl (.inl h)
            · exact .inr (.inl h)
            · exact .inl (.inr h)
            · exact .inr (.inr h)
          · rintro ((h | h) | h | h)
            · exact .inl h
            · exact .inr (.inr (.inl h))
            · exact .inr (.inl h)
            · exact .inr (.inr (.inr h))
        have := ih (D ++ [i]) (A ++ B) _ σ' wd (listed.setIfInBounds i true) (by simpa using hsz) hD' (fun j hj => hL0 j (hmem j hj)) (hpw.sublist (List.Sublist.append (List.Sublist.refl A) (List.sublist_cons_self i B))) (fun j hj => ⟨(hLD j (hmem j hj)).1, fun h => by
            rcases List.mem_append.1 h with h | h
            · exact (hLD j (hmem j hj)).2 h
            · rw [List.mem_singleton.1 h] at hj; exact hnd hj⟩) (by simp; omega) (by simp at hlen ⊢; omega) hcl' (fun j hj oj hoj p hp => by
            rcases hpr j (hmem j hj) oj hoj p hp with h | h
            · exact .inl (List.mem_append_left _ h)
            · rcases List.mem_append.1 h with h | h
              · exact .inr (List.mem_append_left _ h)
              · rcases List.mem_cons.1 h with rfl | h
                · exact .inl (List.mem_append_right _ (List.mem_singleton.2 rfl))
                · exact .inr (List.mem_append_right _ h)) (fun j hj hjD hjL => by
            refine (hoth j hj (fun h => hjD (List.mem_append_left _ h)) (fun h => ?_)).imp id fun h q hq => h q (hmem q hq)
            rcases List.mem_append.1 h with h | h
            · exact hjL (List.mem_append_left _ h)
            · rcases List.mem_cons.1 h with rfl | h
              · exact hjD (List.mem_append_right _ (List.mem_singleton.2 rfl))
              · exact hjL (List.mem_append_right _ h)) (fun x it hx => by
            obtain ⟨w0, w1, w2, w3, w4, w5⟩ := hwd x it hx
            refine ⟨w0, fun h => ?_, fun h => w2 (hmem x h), w3, w4, fun j hj => w5 j (hmem j hj)⟩
            rcases List.mem_append.1 h with h | h
            · exact w1 h
            · exact w2 (by rw [List.mem_singleton.1 h]; exact List.mem_append_right _ List.mem_cons_self)) (Zef hh) r1
            (Zft hperm (by simp; omega) hend) (fun x it hx => Zft (fun j => by rw [List.mem_append, List.mem_append (s := D ++ [i] ++ (A ++ B)), hperm]) (by simp; omega) (hendW x it hx)) n _ _ ν1 w1 a1 hg1
        exact run_any.wpAnyIn_mono' this fun e a' w' hp => hp.trans hs (fun k hk => hν k (hh k hk))
      · rcases hoth i h1 hnD hiL with ⟨it, hx⟩ | hall
        · obtain ⟨w0, w1, w2, ⟨o, ho, hrun⟩, w4, w5⟩ := hwd i it hx
          -- the operation that may come at any time, taken now
          have hr2 : Zct N (fun j => if j = i then it else its j) (L ++ [i]) σ (it.app σ') := by
            have : ∀ (L : List Nat) (σ : St), (∀ j, j ∈ L → j ≠ i) → Zct N its L σ σ' → Zct N (fun j => if j = i then it else its j) (L ++ [i]) σ (it.app σ') := by
              intro L
              induction L with
              | nil =>
                intro σ _ h
                obtain rfl : σ = σ' := h
                refine ⟨?_, ?_⟩
                · dsimp only; rw [if_pos rfl]; exact w4
                · show ((fun j => if j = i then it else its j) i).app σ = it.app σ
                  have e : (fun j => if j = i then it else its j) i = it := if_pos rfl
                  rw [e]
              | cons j L ih =>
                intro σ hne h
                obtain ⟨f, h⟩ := h
                have e : (fun j => if j = i then it else its j) j = its j := if_neg (hne j List.mem_cons_self)
                exact ⟨by rw [e]; exact f, by rw [e]; exact ih _ (fun q hq => hne q (List.mem_cons_of_mem _ hq)) h⟩
            exact this L σ (fun j hj e => hiL (e ▸ hj)) hr
          have hr3 := Zeo (B := []) L σ (it.app σ') (fun j hj => by
            have hji : ¬ j = i := fun e => hiL (e ▸ hj)
            rw [if_neg hji, if_pos rfl]; exact w5 j hj) hr2
          simp only [if_true, List.append_nil] at hr3
          obtain ⟨f1, r1⟩ := hr3
          have r1 : Zct N its L (it.app σ) (it.app σ') := by
            have : ∀ (L : List Nat) (σ : St), (∀ j, j ∈ L → j ≠ i) → Zct N (fun j => if j = i then it else its j) L σ (it.app σ') → Zct N its L σ (it.app σ') := by
              intro L
              induction L with
              | nil => intro σ _ h; exact h
              | cons j L ih =>
                intro σ hne h
                obtain ⟨f, h⟩ := h
                have e : (fun j => if j = i then it else its j) j = its j := if_neg (hne j List.mem_cons_self)
                rw [e] at f h
                exact ⟨f, ih _ (fun q hq => hne q (List.mem_cons_of_mem _ hq)) h⟩
            exact this L _ (fun j hj e => hiL (e ▸ hj)) r1
          unfold wpOpIn
          simp only [ho]
          refine hrun n K Z ν w a σ hg f1 _ _ ?_
          intro Z1 ν1 w1' a1 hs hν hg1
          have hperm : ∀ j, j ∈ D ++ L ++ [i] ↔ j ∈ D ++ [i] ++ L := fun j => by
            simp only [List.mem_append, List.mem_cons, List.not_mem_nil, or_false]
            exact or_right_comm
          have hend2 := Zft (P := P) (ro := ro) (N := N) (κ := κ) (ops := ops) hperm (by simp only [List.length_append]; omega) (hendW i it hx)
          rw [hx] at hlen
          dsimp only at hlen
          have := ih (D ++ [i]) L _ (it.app σ') none (listed.setIfInBounds i true) (by simpa using hsz) hD' hL0 hpw (fun j hj => ⟨(hLD j hj).1, fun h => by
              rcases List.mem_append.1 h with h | h
              · exact (hLD j hj).2 h
              · rw [List.mem_singleton.1 h] at hj; exact hiL hj⟩) (by simp; omega) (by simp; omega) hcl' (fun j hj oj hoj p hp => (hpr j hj oj hoj p hp).imp (List.mem_append_left _) id) (fun j hj hjD hjL => by
              refine .inr ((hoth j hj (fun h => hjD (List.mem_append_left _ h)) hjL).resolve_left ?_)
              rintro ⟨it', hx'⟩
              rw [hx] at hx'
              cases hx'
              exact hjD (List.mem_append_right _ (List.mem_singleton.2 rfl))) (fun x it' hx' => by cases hx') (Zef hh) r1 hend2 (fun x it' hx' => by cases hx') n _ _ ν1 w1' a1 hg1
          exact run_any.wpAnyIn_mono' this fun e a' w' hp => hp.trans hs (fun k hk => hν k (hh k hk))
        · exfalso
          have := Zcj hA hcl i h1 _ (Array.getElem?_eq_getElem h1) (h3 _ (Array.getElem?_eq_getElem h1)) i0 (hall i0 hi0)
          rw [hD i0 (hLD i0 hi0).1] at this
          exact (hLD i0 hi0).2 (memB_iff.1 this)
def incB : List Nat → Bool
  | a :: b :: t => Nat.blt a b && incB (b :: t)
  | _ => true
theorem incB_pw : ∀ {l : List Nat}, incB l = true → l.Pairwise (· < ·)
  | [], _ => .nil
  | [a], _ => by simp
  | a :: b :: t, h => by
    simp only [incB, Bool.and_eq_true, Nat.blt_eq] at h
    have ih := incB_pw h.2
    refine List.pairwise_cons.2 ⟨fun c hc => ?_, ih⟩
    rcases List.mem_cons.1 hc with rfl | hc
    · exact h.1
    · exact Nat.lt_trans h.1 (List.rel_of_pairwise_cons ih hc)
def setOK (all : List Oper) (D L ws : List Nat) (l wl : List Item) : Bool :=
  let A := ancs all []
  Zid all && incB L && (L.all fun i => Nat.blt i all.length && !memB D i) && Nat.ble (D.length + L.length + ws.length) all.length &&
  (D.all fun i => match all[i]? with | some o => (Zbt o).all (memB D) | none => false) && (L.all fun i => match all[i]? with | some o => (Zbt o).all fun p => memB D p || memB L p | none => false) &&
  ((List.range all.length).all fun i => memB D i || memB L i || memB ws i || L.all fun j => memB (A.getD i []) j) &&
  ((List.range L.length).all fun a => (List.range a).all fun b => memB (A.getD (L.getD a 0) []) (L.getD b 0) || Zgu (Zbm l b) (Zbm l a)) &&
  (ws.all fun x => Nat.blt x all.length && !memB D x && !memB L x && (List.range L.length).all fun b => Zgu (Zbm l b) (Zbm wl 0))
theorem runsTo_seq {its its' : Nat → Item} : ∀ {L L' : List Nat} {s s' : St}, L.map its = L'.map its' → Zct N its L s s' → Zct N its' L' s s'
  | [], [], _, _, _, h => h
  | [], _ :: _, _, _, he, _ => by cases he
  | _ :: _, [], _, _, he, _ => by cases he
  | a :: L, b :: L', s, s', he, h => by
    simp only [List.map_cons, List.cons.injEq] at he
    obtain ⟨f, h⟩ := h
    exact ⟨he.1 ▸ f, by rw [← he.1]; exact runsTo_seq he.2 h⟩
theorem Zf5 (htb : Zcz P tb) (hmz : ∀ t i, tb t = some i → men noK i.zero = true) (hsp : SpOK P sp) (ch : Nat → Bool) (k : Nat) {m : Nat} {all os wos : List Oper} {D : List Nat} (L ws : List Nat) {env : List (Nat × AV)} {l : List (Nat × Option Blk)} {ms : List Nat} {Q : Exit → St → Prop}
    (hos : L.map (fun i => all[i]?) = os.map some) (hws : ws.map (fun i => all[i]?) = wos.map some) (hw1 : ws.length ≤ 1) (hN : Zdj N os = true) (hNw : Zdj N wos = true) (hκ : Nat.ble κ (m + k) = true)
    (hd : setOK all D L ws (Zbv tb sp ch m all os k env l).its (Zbv tb sp ch m all wos (k + os.length) (Zbv tb sp ch m all os k env l).env (Zbv tb sp ch m all os k env l).l).its = true)
    (h : ∀ m' e' l' ob, evOut tb sp ch m all os k ⟨m + k, env, l, True⟩ = ⟨m', e', l', ob⟩ → Ob ob ∧ awpS P ro N κ all.toArray (D ++ L) (CS.st ⟨m', e', l', ms⟩) Q ∧
      (ws ≠ [] → ∀ m2 e2 l2 ob2, evOut tb sp ch m all wos (k + os.length) ⟨m', e', l', True⟩ = ⟨m2, e2, l2, ob2⟩ → Ob ob2 ∧ awpS P ro N κ all.toArray (D ++ L ++ ws) (CS.st ⟨m2, e2, l2, ms⟩) Q)) : awpS P ro N κ all.toArray D (CS.st ⟨m + k, env, l, ms⟩) Q := by
  obtain ⟨hob, hq, hq2⟩ := h _ _ _ _ rfl
  obtain ⟨h1, h2, h3, h4⟩ := Zd5 ch m all os k (m + k) env l True hob
  rw [h1, h2, h4] at hq hq2
  have hfresh : ∀ j, m + k ≤ j → ltK (m + k) j = false := fun j hj => by show Nat.blt j (m + k) = false; cases hb : Nat.blt j (m + k) with | false => rfl | true => rw [Nat.blt_eq] at hb; omega
  obtain ⟨g1, g2, μ', g3, g4, g5⟩ := Zd6 (ro := ro) (N := N) htb hmz hsp ch m all ms os k env l (ltK (m + k)) hN hfresh h3
  generalize hE : Zbv tb sp ch m all os k env l = E at *
  simp only [setOK, Bool.and_eq_true, List.all_eq_true, List.mem_range, Bool.or_eq_true, Bool.not_eq_true', Nat.blt_eq] at hd
  obtain ⟨⟨⟨⟨⟨⟨⟨⟨d1, d2⟩, d3⟩, d4⟩, d5⟩, d6⟩, d7⟩, d8⟩, d9⟩ := hd
  have hA := Zhy (ops := all.toArray) (by simpa using d1)
  have hpw := incB_pw d2
  have hLlen : L.length = os.length := by have := congrArg List.length hos; simpa using this
  have hat : ∀ i, i < L.length → all.toArray[L.getD i 0]? = os[i]? := fun i hi => by
    have := congrArg (fun q => q[i]?) hos
    simp only [List.getElem?_map, List.getElem?_eq_getElem hi, Option.map_some] at this
    rw [List.getElem?_toArray, List.getD_eq_getElem?_getD, List.getElem?_eq_getElem hi, Option.getD_some]
    have hi' : i < os.length := by omega
    rw [List.getElem?_eq_getElem hi'] at this ⊢
    simpa using this
  have hnd : L.Nodup := hpw.imp fun h => Nat.ne_of_lt h
  have hidx : ∀ i, i ∈ L → ∃ a, a < L.length ∧ L.getD a 0 = i ∧ L.idxOf i = a := fun i hi => by
    have hlt := List.idxOf_lt_length_of_mem hi
    refine ⟨L.idxOf i, hlt, ?_, rfl⟩
    rw [List.getD_eq_getElem?_getD, List.getElem?_eq_getElem hlt, Option.getD_some, List.getElem_idxOf hlt]
  have hidx2 : ∀ a, a < L.length → L.idxOf (L.getD a 0) = a := fun a ha => by
    rw [List.getD_eq_getElem?_getD, List.getElem?_eq_getElem ha, Option.getD_some]
    exact hnd.idxOf_getElem a ha
  have hlt : ∀ a b, a < L.length → b < L.length → L.getD b 0 < L.getD a 0 → b < a := fun a b ha hb h => by
    rcases Nat.lt_or_ge b a with h2 | h2
    · exact h2
    · exfalso
      rcases Nat.eq_or_lt_of_le h2 with rfl | h3
      · omega
      · have := List.pairwise_iff_getElem.1 hpw a b ha hb h3
        rw [List.getD_eq_getElem?_getD, List.getElem?_eq_getElem hb, Option.getD_some, List.getD_eq_getElem?_getD, List.getElem?_eq_getElem ha, Option.getD_some] at h
        omega
  have hgood : ∀ {n : Nat} {K Z : Nat → Prop} {w : World} {ν : Nat → Value} {a : Act} {μ : Nat → Bool} {e : Env} {rs : Rs} {m' : Nat}, (∀ j, m' ≤ j → μ j = false) → Good K Z N w ν ⟨μ, e, rs, ms⟩ a → Good K Z N w ν ⟨ltK m', e, rs, ms⟩ a := fun hμ hg => hg.widen fun j hj => by
    show Nat.blt j _ = true
    rw [Nat.blt_eq]
    rcases Nat.lt_or_ge j _ with h | h
    · exact h
    · rw [hμ j h] at hj; cases hj
  intro n K Z ν w a hg fuel listed hsz hD hfuel
  have hcl : Zgp all.toArray listed := fun i o ho hl p hp => by
    have hi : i < all.toArray.size := (Array.getElem?_eq_some_iff.1 ho).1
    rw [hD i hi] at hl
    have := d5 i (memB_iff.1 hl)
    rw [List.getElem?_toArray] at ho
    rw [ho] at this
    dsimp only at this
    rw [List.all_eq_true] at this
    have hpi := (hA.up i hi o (by rw [List.getElem?_toArray]; exact ho)).2 p hp
    rw [hD p (by omega)]
    exact this p hp
  have hseq : Zct N (fun i => Zbm E.its (L.idxOf i)) L (CS.st ⟨m + k, env, l, ms⟩) ⟨μ', lke E.env, lkr E.l, ms⟩ := by
    refine runsTo_seq ?_ g5
    refine List.ext_getElem (by simp [hLlen]) fun t h1 h2 => ?_
    simp only [List.getElem_map, List.getElem_range']
    have ht : t < L.length := by simpa using h2
    have := hidx2 t ht
    rw [List.getD_eq_getElem?_getD, List.getElem?_eq_getElem ht, Option.getD_some] at this
    rw [this, show k + 1 * t - k = t from by omega]
  have main : ∀ wd : Option (Nat × Item), (match wd with | some _ => 1 | none => 0) = ws.length → (∀ x it, wd = some (x, it) → ws = [x] ∧ (∃ o, all.toArray[x]? = some o ∧ Zho P ro N all.toArray o it) ∧ Fits N it ⟨μ', lke E.env, lkr E.l, ms⟩ ∧ it = Zbm (Zbv tb sp ch m all wos (k + os.length) E.env E.l).its 0 ∧ awpS P ro N κ all.toArray (D ++ L ++ [x]) (it.app ⟨μ', lke E.env, lkr E.l, ms⟩) Q) → (ws = [] ∨ ∃ x it, wd = some (x, it)) →
      wpAnyIn (FF ro) n P .any all.toArray (Post N κ K Z w ν Q) fuel listed a w := fun wd hwl hwd hwx => by
    refine run_set hA (L0 := L) (its := fun i => Zbm E.its (L.idxOf i)) (fun i hi => ?_) (fun i j hi hj hji => ?_) fuel D L (CS.st ⟨m + k, env, l, ms⟩) ⟨μ', lke E.env, lkr E.l, ms⟩ wd listed hsz hD (fun i hi => hi) hpw (fun i hi => ?_) hfuel (by rw [hwl, List.size_toArray]; exact Nat.le_of_ble_eq_true d4) hcl (fun i hi o ho p hp => ?_) (fun i hi hiD hiL => ?_) (fun x it hx => ?_) (fun j hj => ?_) hseq ?_ (fun x it hx => (hwd x it hx).2.2.2.2) n K Z ν w a hg
    · obtain ⟨t, ht, he, hx⟩ := hidx i hi
      have := hat t ht
      rw [he, List.getElem?_eq_getElem (show t < os.length by omega)] at this
      exact ⟨_, this, by rw [hx]; exact g2 t _ (List.getElem?_eq_getElem (by omega))⟩
    · obtain ⟨t, ht, he, hx⟩ := hidx i hi
      obtain ⟨u, hu, he2, hx2⟩ := hidx j hj
      have hut := hlt t u ht hu (by rw [he, he2]; exact hji)
      have := d8 t ht u hut
      rw [he, he2] at this
      rw [hx, hx2]
      rcases this with h | h
      · exact .inl (by simpa using memB_iff.1 h)
      · exact .inr (Zf6 h)
    · obtain ⟨q1, q2⟩ := d3 i hi
      exact ⟨by simpa using q1, memB_false.1 q2⟩
    · have := d6 i hi
      rw [List.getElem?_toArray] at ho
      rw [ho] at this
      dsimp only at this
      rw [List.all_eq_true] at this
      have := this p hp
      rw [Bool.or_eq_true] at this
      exact this.imp memB_iff.1 memB_iff.1
    · rcases d7 i (by simpa using hi) with ((h | h) | h) | h
      · exact absurd (memB_iff.1 h) hiD
      · exact absurd (memB_iff.1 h) hiL
      · refine .inl ?_
        rcases hwx with h0 | ⟨x, it, hx⟩
        · rw [h0] at h; cases h
        · have := (hwd x it hx).1
          rw [this] at h
          have := List.mem_singleton.1 (memB_iff.1 h)
          exact ⟨it, by rw [this]; exact hx⟩
      · exact .inr fun j hj => by simpa using memB_iff.1 (h j hj)
    · obtain ⟨q1, q2, q3, q4, q5⟩ := hwd x it hx
      have hq := d9 x (by rw [q1]; exact List.mem_singleton.2 rfl)
      obtain ⟨⟨⟨r1, r2⟩, r3⟩, r4⟩ := hq
      refine ⟨by simpa using r1, memB_false.1 r2, memB_false.1 r3, q2, q3, fun j hj => ?_⟩
      obtain ⟨u, hu, he2, hx2⟩ := hidx j hj
      rw [hx2, q4]
      exact Zf6 (r4 u hu)
    · show Nat.blt j (m + k) = true
      rw [Nat.blt_eq]
      have := Nat.le_of_ble_eq_true hκ
      omega
    · intro n K Z ν w a hg
      exact hq n K Z ν w a (hgood (n := 0) g3 hg)
  cases hwe : ws with
  | nil => exact main none (by rw [hwe]; rfl) (fun x it hx => by cases hx) (.inl hwe)
  | cons x t =>
    obtain rfl : t = [] := by rw [hwe] at hw1; simp at hw1; exact hw1
    obtain ⟨hob2, hq3⟩ := hq2 (by rw [hwe]; simp) _ _ _ _ rfl
    obtain ⟨e1, e2, e3, e4⟩ := Zd5 ch m all wos (k + os.length) (m + k + os.length) E.env E.l True hob2
    rw [e1, e2, e4] at hq3
    obtain ⟨f1, f2, μ2, f3, f4, f5⟩ := Zd6 (ro := ro) (N := N) htb hmz hsp ch m all ms wos (k + os.length) E.env E.l μ' hNw (fun j hj => g3 j (by omega)) e3
    have hwos : ∃ o, wos = [o] ∧ all[x]? = some o := by
      rw [hwe] at hws
      simp only [List.map_cons, List.map_nil] at hws
      cases hwo : wos with
      | nil => rw [hwo] at hws; cases hws
      | cons o t =>
        cases t with
        | nil => rw [hwo] at hws; simp only [List.map_cons, List.map_nil, List.cons.injEq, and_true] at hws; exact ⟨o, rfl, hws⟩
        | cons _ _ => rw [hwo] at hws; simp at hws
    obtain ⟨o, rfl, hox⟩ := hwos
    obtain ⟨ff, f5⟩ := f5
    have hz : ∀ q : Nat, q - q = 0 := Nat.sub_self
    simp only [hz] at ff f5
    have hst : (Zbm (Zbv tb sp ch m all [o] (k + os.length) E.env E.l).its 0).app ⟨μ', lke E.env, lkr E.l, ms⟩ = _ := f5
    refine main (some (x, Zbm (Zbv tb sp ch m all [o] (k + os.length) E.env E.l).its 0)) (by rw [hwe]; rfl) (fun x' it hx => ?_) (.inr ⟨_, _, rfl⟩)
    cases hx
    refine ⟨hwe, ⟨o, by rw [List.getElem?_toArray]; exact hox, f2 0 o rfl⟩, ff, rfl, ?_⟩
    rw [hst]
    intro n K Z ν w a hg
    rw [hwe] at hq3
    exact hq3 n K Z ν w a (hgood (n := 0) (fun j hj => f3 j (by simp only [List.length_cons, List.length_nil] at hj ⊢; omega)) hg)
def brOK (all : List Oper) (D R : List Nat) : Bool :=
  let A := ancs all []
  Zid all && (R.all fun i => Nat.blt i all.length && !memB D i) && Nat.blt D.length all.length &&
  (D.all fun i => match all[i]? with | some o => (Zbt o).all (memB D) | none => false) && (match R with | [] => false | i :: _ => match all[i]? with | some o => (Zbt o).all (memB D) | none => false) &&
  ((List.range all.length).all fun i => memB D i || memB R i || (A.getD i []).any fun j => !memB D j)
theorem Ze4 {all : List Oper} {D : List Nat} (R : List Nat) {σ : St} {Q : Exit → St → Prop} (hd : brOK all D R = true)
    (h : ∀ i, i ∈ R → ∃ o, all[i]? = some o ∧ o.guard.isNone = true ∧ awpL P ro N κ [o] σ (Zew (fun s => awpS P ro N κ all.toArray (D ++ [i]) s Q) Q)) : awpS P ro N κ all.toArray D σ Q := by
  simp only [brOK, Bool.and_eq_true, List.all_eq_true, List.mem_range, Bool.or_eq_true, Bool.not_eq_true', Nat.blt_eq, List.any_eq_true] at hd
  obtain ⟨⟨⟨⟨⟨d1, d2⟩, d3⟩, d4⟩, d5⟩, d6⟩ := hd
  have hA := Zhy (ops := all.toArray) (by simpa using d1)
  intro n K Z ν w a hg fuel listed hsz hD hfuel
  have hcl : Zgp all.toArray listed := fun i o ho hl p hp => by
    have hi : i < all.toArray.size := (Array.getElem?_eq_some_iff.1 ho).1
    rw [hD i hi] at hl
    have := d4 i (memB_iff.1 hl)
    rw [List.getElem?_toArray] at ho
    rw [ho] at this
    dsimp only at this
    rw [List.all_eq_true] at this
    have hpi := (hA.up i hi o (by rw [List.getElem?_toArray]; exact ho)).2 p hp
    rw [hD p (by omega)]
    exact this p hp
  cases fuel with
  | zero => rw [List.size_toArray] at hfuel; omega
  | succ fuel =>
    refine ⟨fun hnil => ?_, fun i hi => ?_⟩
    · exfalso
      match R, d5, d2 with
      | i :: R, d5, d2 =>
        dsimp only at d5
        obtain ⟨o, ho, _⟩ := h i List.mem_cons_self
        rw [ho] at d5
        dsimp only at d5
        rw [List.all_eq_true] at d5
        obtain ⟨q1, q2⟩ := d2 i List.mem_cons_self
        have hs : i < all.toArray.size := by simpa using q1
        have ho' : all.toArray[i]? = some o := by rw [List.getElem?_toArray]; exact ho
        have : i ∈ Region.ready .any all.toArray listed := Zen ho' (by rw [hD i hs]; exact q2) fun p hp => by
          have hpi := (hA.up i hs o ho').2 p hp
          exact ⟨by omega, by rw [hD p (by omega)]; exact d5 p hp⟩
        rw [hnil] at this
        cases this
    · obtain ⟨h1, h2, h3⟩ := Zce hi
      have hnD : memB D i = false := by rw [← hD i h1]; exact h2
      have hi2 : i < listed.size := by omega
      have hiR : i ∈ R := by
        rcases d6 i (by simpa using h1) with (h | h) | ⟨j, hj, h⟩
        · rw [hnD] at h; cases h
        · exact memB_iff.1 h
        · exfalso
          have hj' : j ∈ (ancs all.toArray.toList []).getD i [] := by simpa using hj
          have := Zcj hA hcl i h1 _ (Array.getElem?_eq_getElem h1) (h3 _ (Array.getElem?_eq_getElem h1)) j hj'
          have hji := ((hA.up i h1 _ (Array.getElem?_eq_getElem h1)).1 j hj').2
          rw [hD j (by omega)] at this
          rw [this] at h; cases h
      obtain ⟨o, ho, hgd, hh⟩ := h i hiR
      have ho' : all.toArray[i]? = some o := by rw [List.getElem?_toArray]; exact ho
      have hh := hh n K Z ν w a hg
      have hw0 : Region.wanted o (yielded #[] a.tmps) = true := Zcu hgd _
      simp only [wpListIn, hw0, if_true] at hh
      unfold wpOpIn
      have hw1 : Region.wanted o (yielded all.toArray a.tmps) = true := Zcu hgd _
      simp only [ho', hw1, if_true]
      have h2 : o.wpIn (FF ro) n P a w (fun a' w' => Post N κ K Z w ν (Zew (fun s => awpS P ro N κ all.toArray (D ++ [i]) s Q) Q) .normal a' w') (Post N κ K Z w ν (Zew (fun s => awpS P ro N κ all.toArray (D ++ [i]) s Q) Q)) := hh
      refine Ze9 (fun a' w' hp => ?_) (fun e a' w' he hp => ?_) h2
      · obtain ⟨Z', ν', σ', g1, g2, g3, g4⟩ := hp
        refine run_any.wpAnyIn_mono' (g4 n _ _ ν' w' a' g3 fuel (listed.setIfInBounds i true) (by simpa using hsz) (fun j hj => ?_) (by simp at hfuel ⊢; omega)) fun e a2 w2 hp => hp.trans g1 g2
        cases e : memB (D ++ [i]) j with
        | true =>
          refine (Zc9 hi2).2 ?_
          rcases List.mem_append.1 (memB_iff.1 e) with h | h
          · exact .inr (by rw [hD j hj]; exact memB_iff.2 h)
          · exact .inl (List.mem_singleton.1 h)
        | false =>
          have := memB_false.1 e
          rw [List.mem_append, List.mem_singleton, not_or] at this
          exact (Ze6 hi2).2 ⟨this.2, by rw [hD j hj]; exact memB_false.2 this.1⟩
      · obtain ⟨Z', ν', σ', g1, g2, g3, g4⟩ := hp
        refine ⟨Z', ν', σ', g1, g2, g3, ?_⟩
        cases e <;> first | exact absurd rfl he | exact g4
theorem Zhn {D : List Nat} {σ : St} {Q : Exit → St → Prop} (hk : (List.range ops.size).all (memB D) = true) (h : Q .normal σ) : awpS P ro N κ ops D σ Q := by
  rw [List.all_eq_true] at hk
  intro n K Z ν w a hg fuel listed hsz hD hfuel
  have hn : Region.ready .any ops listed = [] := by
    refine List.eq_nil_iff_forall_not_mem.2 fun i hi => ?_
    obtain ⟨h1, h2, _⟩ := Zce hi
    rw [hD i h1, hk i (List.mem_range.2 h1)] at h2; cases h2
  cases fuel with
  | zero => exact ⟨hn, Zcn hg h⟩
  | succ fuel => exact ⟨fun _ => Zcn hg h, fun i hi => by rw [hn] at hi; cases hi⟩
theorem awp_drawS (hmo : P.follows .mixedOrders = true) {id : Nat} {σ : St} {Q : Exit → St → Prop} (h : awpS P ro N κ ops [] σ Q) : awp P ro N κ (.region id ops true) σ Q := by
  intro n K Z ν w a hg
  refine wpIn_region_any hmo ?_
  have hstep : Step K Z w Z { w with drawn := w.drawn + 1 } := ⟨⟨rfl, rfl, rfl, Nat.le_refl _, fun _ _ => rfl⟩, fun _ h => h, fun _ h => .inl h⟩
  have hg1 := hg.drew (w.drawn + 1)
  refine run_any.wpAnyIn_mono' (h n K Z ν _ a hg1 ops.size (Array.replicate ops.size false) (by simp) (fun i hi => by simp [Array.getD_eq_getD_getElem?, Array.getElem?_replicate, hi, memB]) (by simp)) fun e a' w' hp => ?_
  have e := Post.trans (N := N) (κ := κ) (K := K) (Z := Z) (w := w) (ν := ν) hstep (fun _ _ => rfl) (by rw [Zbp hg.zk]; exact hp)
  exact e
end
open Go Pl
theorem exV : Zba ⟨[0, 1], [1, 2], [[0, 1], [0, 1]]⟩ = true := by
  refine Zdz ⟨by decide, rfl, rfl, fun v hv => ?_⟩
  have hv : v < 2 := hv
  have : v = 0 ∨ v = 1 := by omega
  rcases this with rfl | rfl
  · refine ⟨by decide, fun i hi => ?_⟩
    have hi : i < 2 := hi
    have : i = 0 ∨ i = 1 := by omega
    rcases this with rfl | rfl <;> exact ⟨by decide, by decide, by decide⟩
  · refine ⟨by decide, fun i hi => ?_⟩
    have hi : i < 2 := hi
    have : i = 0 ∨ i = 1 := by omega
    rcases this with rfl | rfl <;> exact ⟨by decide, by decide, by decide⟩
theorem exC : Zbn ⟨[0, 1], [1, 2], [[0, 1], [0, 1]]⟩ [1, 1] [-1, 0] = true := by
  refine decide_eq_true ⟨rfl, rfl, fun v hv => ?_⟩
  have hv : v < 2 := hv
  have : v = 0 ∨ v = 1 := by omega
  rcases this with rfl | rfl
  · exact ⟨.inr rfl, fun h => absurd h (by decide), fun _ => rfl⟩
  · exact ⟨.inr rfl, fun _ => by decide, fun h => absurd rfl h⟩
theorem exNo : solB ⟨[0, 1], [1, 2], [[0, 1], [0, 1]]⟩ [1, 1] [-1, 0] = false := by
  rw [Bool.eq_false_iff]
  intro h
  have hi : isP ⟨[0, 1], [1, 2], [[0, 1], [0, 1]]⟩ [] [0, 1] = true := by decide
  have h1 := sol_no exV h hi
  have h2 : Zcr ⟨[0, 1], [1, 2], [[0, 1], [0, 1]]⟩ [1, 1] [-1, 0] [] [0, 1] = true := by
    refine against_iff.2 ⟨fun i hi => ?_, .inr (by decide)⟩
    have hi : i < 2 := hi
    have : i = 0 ∨ i = 1 := by omega
    rcases this with rfl | rfl
    · exact fun h => absurd h.1 (by decide)
    · exact fun _ => by decide
  rw [h1] at h2; cases h2
theorem Zjh {s l : List Int} {e : Int} (h : chkQ ⟨[0, 1], [1, 2], [[0, 1], [0, 1]]⟩ [1, 1] [-1, 0] s l e) : e = 8 ∧ (s.length ≤ 4 ∧ l.length ≤ 4) ∧ ctrR ⟨[0, 1], [1, 2], [[0, 1], [0, 1]]⟩ [1, 1] [-1, 0] s l = (true, 0) := by
  rcases h with ⟨h, _⟩ | ⟨_, h, _⟩ | ⟨_, _, h, _⟩ | ⟨_, _, h, e⟩
  · rw [exV] at h; cases h
  · rw [exC] at h; cases h
  · rw [exNo] at h; cases h
  · have hl : s.length + l.length ≤ 2 * 2 := h.len
    refine ⟨e, ⟨by omega, by omega⟩, ?_⟩
    unfold ctrR
    rw [if_pos exV, if_pos ⟨exC, h.is⟩, h.ag]
noncomputable def spAx : Nat → Option Spec
  | 27 => some exS
  | 17 => some ctrS
  | _ => none
theorem Zcd : SpOK Tryd.prog spAx := by
  intro f S h
  unfold spAx at h
  split at h
  · cases h; exact ex_ok
  · cases h; exact vctr_ok
  · cases h
set_option maxRecDepth 4000 in
set_option maxHeartbeats 4000000 in
theorem awake16_fg : FG Tryd.prog 8 [] [(0, some glB)] 1 fun g => g = ⟨1, .bool true, [(0, some glB)]⟩ := by
  refine Zhv htb (fn := Tryd.f8) (by kernel_rfl) (by kernel_rfl) rfl (Nat.le_of_ble_eq_true rfl) fun hl => ?_
  simp only [lenP, mkL, lim] at hl
  repeat' first
    | with_reducible first | apply Zar | apply Zan | apply Zaa | apply Zac | apply Zah | apply Zap | apply Zag | apply Zaj | apply Zaq | apply Zas | apply Zao | apply Zal | apply Zab | apply Zak
    | ((with_reducible refine Zai ?_ ?_); exact rfl) | ((with_reducible refine Zat ?_); refine Zam rfl ?_ ?_ <;> intro hb <;> (try simp only [zH] at hb)) | ((with_reducible refine Zau 2 ?_ ?_); (· exact rfl); (first | refine Zaf htb hmz Zcd fF rfl rfl ?_ | refine Zae hmo htb hmz Zcd fF rfl rfl (by kernel_rfl) ?_); intro _ _ _ _ h; simp only [zE, evp, evx, ev1, evLoad, evStore, evBin, evIf, Zad, forall_const, z38, tb, reduceAdd, reduceSub, reduceMul, reduceEqDiff, reduceLeDiff, reduceLT, Nat.reduceBEq, Nat.reduceBNe, ↓reduceIte, reduceIte, spAx, exS, ctrS, Za1, Za3, Za2, true_and, and_true] at h; obtain ⟨rfl, rfl, rfl, rfl⟩ := h; refine ⟨?_, ?_⟩) | ((with_reducible refine Ob.mk ?_); first | exact trivial | (intros; omega) | ((repeat' first | apply And.intro | (intro a; have b := a; try simp only [zH] at b)) <;> first | assumption | omega | (simp only [zH]; omega)))
  refine awp_drawS hmo ?_
  refine Zf5 (m := 7) htb hmz Zcd (fun _ => false) 0 [0, 1] [6] (os := [_, _]) (wos := [_]) rfl rfl (Nat.le_of_ble_eq_true rfl) rfl rfl rfl (by kernel_rfl) ?_; intro _ _ _ _ h; simp only [zE, evp, evx, ev1, evLoad, evStore, evBin, evIf, Zad, forall_const, z38, tb, reduceAdd, reduceSub, reduceMul, reduceEqDiff, reduceLeDiff, reduceLT, Nat.reduceBEq, Nat.reduceBNe, ↓reduceIte, reduceIte, spAx, exS, ctrS, Za1, Za3, Za2, true_and, and_true] at h; obtain ⟨rfl, rfl, rfl, rfl⟩ := h; refine ⟨?_, ?_, ?_⟩
  · first | ((with_reducible refine Ob.mk ?_); first | exact trivial | (intros; omega) | ((repeat' first | apply And.intro | (intro a; have b := a; try simp only [zH] at b)) <;> first | (with_reducible exact True.intro) | assumption | omega | (simp only [zH]; omega))) | skip
  · refine Ze4 [2, 6] (by kernel_rfl) fun i hi => ?_
    simp only [List.mem_cons, List.not_mem_nil, or_false] at hi
    rcases hi with rfl | rfl
    · refine ⟨_, rfl, rfl, ?_⟩
      refine Zb8 ([0]) (Zhl) rfl rfl rfl rfl rfl rfl rfl rfl rfl (by simp only [rinR, rhoC, zE, evp, evx, ev1, evLoad, evStore, evBin, evIf, Zad, forall_const, z38, tb, reduceAdd, reduceSub, reduceMul, reduceEqDiff, reduceLeDiff, reduceLT, Nat.reduceBEq, Nat.reduceBNe, ↓reduceIte, reduceIte, spAx, exS, ctrS, Za1, Za3, Za2, true_and, and_true]) ?_; intro gm gv gr hq m' e' l' h
      obtain ⟨s, l, e, hQ, hq⟩ := hq
      unfold rsA at hq
      simp only [GR.mk.injEq] at hq; obtain ⟨rfl, rfl, rfl⟩ := hq; simp only [rhoC, outR, renR, dels, zE, evp, evx, ev1, evLoad, evStore, evBin, evIf, Zad, forall_const, z38, tb, reduceAdd, reduceSub, reduceMul, reduceEqDiff, reduceLeDiff, reduceLT, Nat.reduceBEq, Nat.reduceBNe, ↓reduceIte, reduceIte, spAx, exS, ctrS, Za1, Za3, Za2, true_and, and_true] at h; obtain ⟨rfl, rfl, rfl⟩ := h; refine Zaa ?_
      obtain ⟨rfl, ⟨hs4, hl4⟩, hcr⟩ := Zjh hQ
      refine Zf5 (m := 6) htb hmz Zcd (fun _ => false) 3 [3, 4, 5, 6, 7, 8] [] (os := [_, _, _, _, _, _]) (wos := []) rfl rfl (Nat.le_of_ble_eq_true rfl) rfl rfl rfl (by kernel_rfl) ?_; intro _ _ _ _ h; simp only [zE, evp, evx, ev1, evLoad, evStore, evBin, evIf, Zad, forall_const, z38, tb, reduceAdd, reduceSub, reduceMul, reduceEqDiff, reduceLeDiff, reduceLT, Nat.reduceBEq, Nat.reduceBNe, ↓reduceIte, reduceIte, spAx, exS, ctrS, Za1, Za3, Za2, true_and, and_true] at h; obtain ⟨rfl, rfl, rfl, rfl⟩ := h; refine ⟨?_, ?_, ?_⟩
      · first | ((with_reducible refine Ob.mk ?_); first | exact trivial | (intros; omega) | ((repeat' first | apply And.intro | (intro a; have b := a; try simp only [zH] at b)) <;> first | (with_reducible exact True.intro) | assumption | omega | (simp only [zH]; omega))) | skip
      · refine Zhn (by kernel_rfl) ?_
        refine Zaa ?_
        repeat' first
          | with_reducible first | apply Zar | apply Zan | apply Zaa | apply Zac | apply Zah | apply Zap | apply Zag | apply Zaj | apply Zaq | apply Zas | apply Zao | apply Zal | apply Zab | apply Zak
          | ((with_reducible refine Zai ?_ ?_); exact rfl) | ((with_reducible refine Zat ?_); refine Zam rfl ?_ ?_ <;> intro hb <;> (try simp only [zH] at hb)) | ((with_reducible refine Zau 4 ?_ ?_); (· exact rfl); (first | refine Zaf htb hmz Zcd fF rfl rfl ?_ | refine Zae hmo htb hmz Zcd fF rfl rfl (by kernel_rfl) ?_); intro _ _ _ _ h; simp only [zE, evp, evx, ev1, evLoad, evStore, evBin, evIf, Zad, forall_const, z38, tb, reduceAdd, reduceSub, reduceMul, reduceEqDiff, reduceLeDiff, reduceLT, Nat.reduceBEq, Nat.reduceBNe, ↓reduceIte, reduceIte, spAx, exS, ctrS, Za1, Za3, Za2, true_and, and_true] at h; obtain ⟨rfl, rfl, rfl, rfl⟩ := h; refine ⟨?_, ?_⟩) | ((with_reducible refine Ob.mk ?_); first | exact trivial | (intros; omega) | ((repeat' first | apply And.intro | (intro a; have b := a; try simp only [zH] at b)) <;> first | assumption | omega | (simp only [zH]; omega)))
        rw [hcr]
        repeat' first
          | with_reducible first | apply Zar | apply Zan | apply Zaa | apply Zac | apply Zah | apply Zap | apply Zag | apply Zaj | apply Zaq | apply Zas | apply Zao | apply Zal | apply Zab | apply Zak
          | ((with_reducible refine Zai ?_ ?_); exact rfl) | ((with_reducible refine Zat ?_); refine Zam rfl ?_ ?_ <;> intro hb <;> (try simp only [zH] at hb)) | ((with_reducible refine Zaz ?_); (first | refine Zaf htb hmz Zcd fF rfl rfl ?_ | refine Zae hmo htb hmz Zcd fF rfl rfl (by kernel_rfl) ?_); intro _ _ _ _ h; simp only [zE, evp, evx, ev1, evLoad, evStore, evBin, evIf, Zad, forall_const, z38, tb, reduceAdd, reduceSub, reduceMul, reduceEqDiff, reduceLeDiff, reduceLT, Nat.reduceBEq, Nat.reduceBNe, ↓reduceIte, reduceIte, spAx, exS, ctrS, Za1, Za3, Za2, true_and, and_true] at h; obtain ⟨rfl, rfl, rfl, rfl⟩ := h; refine ⟨?_, ?_⟩) | ((with_reducible refine Ob.mk ?_); first | exact trivial | (intros; omega) | ((repeat' first | apply And.intro | (intro a; have b := a; try simp only [zH] at b)) <;> first | assumption | omega | (simp only [zH]; omega)))
        refine Zax rfl rfl (Zdv ⟨1, .bool true, [(0, some glB)]⟩ [] rfl rfl (Zca rfl) ?_)
        simp only [grR, zE, evp, evx, ev1, evLoad, evStore, evBin, evIf, Zad, forall_const, z38, tb, reduceAdd, reduceSub, reduceMul, reduceEqDiff, reduceLeDiff, reduceLT, Nat.reduceBEq, Nat.reduceBNe, ↓reduceIte, reduceIte, spAx, exS, ctrS, Za1, Za3, Za2, true_and, and_true]
      · exact fun h => absurd rfl h
    · refine ⟨_, rfl, rfl, ?_⟩
      refine Zbd htb hmz Zcd fF rfl rfl rfl ?_; intro _ _ _ _ h; simp only [zE, evp, evx, ev1, evLoad, evStore, evBin, evIf, Zad, forall_const, z38, tb, reduceAdd, reduceSub, reduceMul, reduceEqDiff, reduceLeDiff, reduceLT, Nat.reduceBEq, Nat.reduceBNe, ↓reduceIte, reduceIte, spAx, exS, ctrS, Za1, Za3, Za2, true_and, and_true] at h; obtain ⟨rfl, rfl, rfl, rfl⟩ := h; refine ⟨?_, Zaa ?_⟩
      · first | ((with_reducible refine Ob.mk ?_); first | exact trivial | (intros; omega) | ((repeat' first | apply And.intro | (intro a; have b := a; try simp only [zH] at b)) <;> first | (with_reducible exact True.intro) | assumption | omega | (simp only [zH]; omega))) | skip
      refine Ze4 [2] (by kernel_rfl) fun i hi => ?_
      obtain rfl := List.mem_singleton.1 hi
      refine ⟨_, rfl, rfl, ?_⟩
      refine Zb8 ([0]) (Zhl) rfl rfl rfl rfl rfl rfl rfl rfl rfl (by simp only [rinR, rhoC, zE, evp, evx, ev1, evLoad, evStore, evBin, evIf, Zad, forall_const, z38, tb, reduceAdd, reduceSub, reduceMul, reduceEqDiff, reduceLeDiff, reduceLT, Nat.reduceBEq, Nat.reduceBNe, ↓reduceIte, reduceIte, spAx, exS, ctrS, Za1, Za3, Za2, true_and, and_true]) ?_; intro gm gv gr hq m' e' l' h
      obtain ⟨s, l, e, hQ, hq⟩ := hq
      unfold rsA at hq
      simp only [GR.mk.injEq] at hq; obtain ⟨rfl, rfl, rfl⟩ := hq; simp only [rhoC, outR, renR, dels, zE, evp, evx, ev1, evLoad, evStore, evBin, evIf, Zad, forall_const, z38, tb, reduceAdd, reduceSub, reduceMul, reduceEqDiff, reduceLeDiff, reduceLT, Nat.reduceBEq, Nat.reduceBNe, ↓reduceIte, reduceIte, spAx, exS, ctrS, Za1, Za3, Za2, true_and, and_true] at h; obtain ⟨rfl, rfl, rfl⟩ := h; refine Zaa ?_
      obtain ⟨rfl, ⟨hs4, hl4⟩, hcr⟩ := Zjh hQ
      refine Zf5 (m := 6) htb hmz Zcd (fun _ => false) 4 [3, 4, 5, 7, 8] [] (os := [_, _, _, _, _]) (wos := []) rfl rfl (Nat.le_of_ble_eq_true rfl) rfl rfl rfl (by kernel_rfl) ?_; intro _ _ _ _ h; simp only [zE, evp, evx, ev1, evLoad, evStore, evBin, evIf, Zad, forall_const, z38, tb, reduceAdd, reduceSub, reduceMul, reduceEqDiff, reduceLeDiff, reduceLT, Nat.reduceBEq, Nat.reduceBNe, ↓reduceIte, reduceIte, spAx, exS, ctrS, Za1, Za3, Za2, true_and, and_true] at h; obtain ⟨rfl, rfl, rfl, rfl⟩ := h; refine ⟨?_, ?_, ?_⟩
      · first | ((with_reducible refine Ob.mk ?_); first | exact trivial | (intros; omega) | ((repeat' first | apply And.intro | (intro a; have b := a; try simp only [zH] at b)) <;> first | (with_reducible exact True.intro) | assumption | omega | (simp only [zH]; omega))) | skip
      · refine Zhn (by kernel_rfl) ?_
        refine Zaa ?_
        repeat' first
          | with_reducible first | apply Zar | apply Zan | apply Zaa | apply Zac | apply Zah | apply Zap | apply Zag | apply Zaj | apply Zaq | apply Zas | apply Zao | apply Zal | apply Zab | apply Zak
          | ((with_reducible refine Zai ?_ ?_); exact rfl) | ((with_reducible refine Zat ?_); refine Zam rfl ?_ ?_ <;> intro hb <;> (try simp only [zH] at hb)) | ((with_reducible refine Zau 4 ?_ ?_); (· exact rfl); (first | refine Zaf htb hmz Zcd fF rfl rfl ?_ | refine Zae hmo htb hmz Zcd fF rfl rfl (by kernel_rfl) ?_); intro _ _ _ _ h; simp only [zE, evp, evx, ev1, evLoad, evStore, evBin, evIf, Zad, forall_const, z38, tb, reduceAdd, reduceSub, reduceMul, reduceEqDiff, reduceLeDiff, reduceLT, Nat.reduceBEq, Nat.reduceBNe, ↓reduceIte, reduceIte, spAx, exS, ctrS, Za1, Za3, Za2, true_and, and_true] at h; obtain ⟨rfl, rfl, rfl, rfl⟩ := h; refine ⟨?_, ?_⟩) | ((with_reducible refine Ob.mk ?_); first | exact trivial | (intros; omega) | ((repeat' first | apply And.intro | (intro a; have b := a; try simp only [zH] at b)) <;> first | assumption | omega | (simp only [zH]; omega)))
        rw [hcr]
        repeat' first
          | with_reducible first | apply Zar | apply Zan | apply Zaa | apply Zac | apply Zah | apply Zap | apply Zag | apply Zaj | apply Zaq | apply Zas | apply Zao | apply Zal | apply Zab | apply Zak
          | ((with_reducible refine Zai ?_ ?_); exact rfl) | ((with_reducible refine Zat ?_); refine Zam rfl ?_ ?_ <;> intro hb <;> (try simp only [zH] at hb)) | ((with_reducible refine Zaz ?_); (first | refine Zaf htb hmz Zcd fF rfl rfl ?_ | refine Zae hmo htb hmz Zcd fF rfl rfl (by kernel_rfl) ?_); intro _ _ _ _ h; simp only [zE, evp, evx, ev1, evLoad, evStore, evBin, evIf, Zad, forall_const, z38, tb, reduceAdd, reduceSub, reduceMul, reduceEqDiff, reduceLeDiff, reduceLT, Nat.reduceBEq, Nat.reduceBNe, ↓reduceIte, reduceIte, spAx, exS, ctrS, Za1, Za3, Za2, true_and, and_true] at h; obtain ⟨rfl, rfl, rfl, rfl⟩ := h; refine ⟨?_, ?_⟩) | ((with_reducible refine Ob.mk ?_); first | exact trivial | (intros; omega) | ((repeat' first | apply And.intro | (intro a; have b := a; try simp only [zH] at b)) <;> first | assumption | omega | (simp only [zH]; omega)))
        refine Zax rfl rfl (Zdv ⟨1, .bool true, [(0, some glB)]⟩ [] rfl rfl (Zca rfl) ?_)
        simp only [grR, zE, evp, evx, ev1, evLoad, evStore, evBin, evIf, Zad, forall_const, z38, tb, reduceAdd, reduceSub, reduceMul, reduceEqDiff, reduceLeDiff, reduceLT, Nat.reduceBEq, Nat.reduceBNe, ↓reduceIte, reduceIte, spAx, exS, ctrS, Za1, Za3, Za2, true_and, and_true]
      · exact fun h => absurd rfl h
  · intro _ m2 e2 l2 ob2 h; simp only [zE, evp, evx, ev1, evLoad, evStore, evBin, evIf, Zad, forall_const, z38, tb, reduceAdd, reduceSub, reduceMul, reduceEqDiff, reduceLeDiff, reduceLT, Nat.reduceBEq, Nat.reduceBNe, ↓reduceIte, reduceIte, spAx, exS, ctrS, Za1, Za3, Za2, true_and, and_true] at h; obtain ⟨rfl, rfl, rfl, rfl⟩ := h; refine ⟨?_, ?_⟩
    · first | ((with_reducible refine Ob.mk ?_); first | exact trivial | (intros; omega) | ((repeat' first | apply And.intro | (intro a; have b := a; try simp only [zH] at b)) <;> first | (with_reducible exact True.intro) | assumption | omega | (simp only [zH]; omega))) | skip
    refine Ze4 [2] (by kernel_rfl) fun i hi => ?_
    obtain rfl := List.mem_singleton.1 hi
    refine ⟨_, rfl, rfl, ?_⟩
    refine Zb8 ([0]) (Zhl) rfl rfl rfl rfl rfl rfl rfl rfl rfl (by simp only [rinR, rhoC, zE, evp, evx, ev1, evLoad, evStore, evBin, evIf, Zad, forall_const, z38, tb, reduceAdd, reduceSub, reduceMul, reduceEqDiff, reduceLeDiff, reduceLT, Nat.reduceBEq, Nat.reduceBNe, ↓reduceIte, reduceIte, spAx, exS, ctrS, Za1, Za3, Za2, true_and, and_true]) ?_; intro gm gv gr hq m' e' l' h
    obtain ⟨s, l, e, hQ, hq⟩ := hq
    unfold rsA at hq
    simp only [GR.mk.injEq] at hq; obtain ⟨rfl, rfl, rfl⟩ := hq; simp only [rhoC, outR, renR, dels, zE, evp, evx, ev1, evLoad, evStore, evBin, evIf, Zad, forall_const, z38, tb, reduceAdd, reduceSub, reduceMul, reduceEqDiff, reduceLeDiff, reduceLT, Nat.reduceBEq, Nat.reduceBNe, ↓reduceIte, reduceIte, spAx, exS, ctrS, Za1, Za3, Za2, true_and, and_true] at h; obtain ⟨rfl, rfl, rfl⟩ := h; refine Zaa ?_
    obtain ⟨rfl, ⟨hs4, hl4⟩, hcr⟩ := Zjh hQ
    refine Zf5 (m := 6) htb hmz Zcd (fun _ => false) 4 [3, 4, 5, 7, 8] [] (os := [_, _, _, _, _]) (wos := []) rfl rfl (Nat.le_of_ble_eq_true rfl) rfl rfl rfl (by kernel_rfl) ?_; intro _ _ _ _ h; simp only [zE, evp, evx, ev1, evLoad, evStore, evBin, evIf, Zad, forall_const, z38, tb, reduceAdd, reduceSub, reduceMul, reduceEqDiff, reduceLeDiff, reduceLT, Nat.reduceBEq, Nat.reduceBNe, ↓reduceIte, reduceIte, spAx, exS, ctrS, Za1, Za3, Za2, true_and, and_true] at h; obtain ⟨rfl, rfl, rfl, rfl⟩ := h; refine ⟨?_, ?_, ?_⟩
    · first | ((with_reducible refine Ob.mk ?_); first | exact trivial | (intros; omega) | ((repeat' first | apply And.intro | (intro a; have b := a; try simp only [zH] at b)) <;> first | (with_reducible exact True.intro) | assumption | omega | (simp only [zH]; omega))) | skip
    · refine Zhn (by kernel_rfl) ?_
      refine Zaa ?_
      repeat' first
        | with_reducible first | apply Zar | apply Zan | apply Zaa | apply Zac | apply Zah | apply Zap | apply Zag | apply Zaj | apply Zaq | apply Zas | apply Zao | apply Zal | apply Zab | apply Zak
        | ((with_reducible refine Zai ?_ ?_); exact rfl) | ((with_reducible refine Zat ?_); refine Zam rfl ?_ ?_ <;> intro hb <;> (try simp only [zH] at hb)) | ((with_reducible refine Zau 4 ?_ ?_); (· exact rfl); (first | refine Zaf htb hmz Zcd fF rfl rfl ?_ | refine Zae hmo htb hmz Zcd fF rfl rfl (by kernel_rfl) ?_); intro _ _ _ _ h; simp only [zE, evp, evx, ev1, evLoad, evStore, evBin, evIf, Zad, forall_const, z38, tb, reduceAdd, reduceSub, reduceMul, reduceEqDiff, reduceLeDiff, reduceLT, Nat.reduceBEq, Nat.reduceBNe, ↓reduceIte, reduceIte, spAx, exS, ctrS, Za1, Za3, Za2, true_and, and_true] at h; obtain ⟨rfl, rfl, rfl, rfl⟩ := h; refine ⟨?_, ?_⟩) | ((with_reducible refine Ob.mk ?_); first | exact trivial | (intros; omega) | ((repeat' first | apply And.intro | (intro a; have b := a; try simp only [zH] at b)) <;> first | assumption | omega | (simp only [zH]; omega)))
      rw [hcr]
      repeat' first
        | with_reducible first | apply Zar | apply Zan | apply Zaa | apply Zac | apply Zah | apply Zap | apply Zag | apply Zaj | apply Zaq | apply Zas | apply Zao | apply Zal | apply Zab | apply Zak
        | ((with_reducible refine Zai ?_ ?_); exact rfl) | ((with_reducible refine Zat ?_); refine Zam rfl ?_ ?_ <;> intro hb <;> (try simp only [zH] at hb)) | ((with_reducible refine Zaz ?_); (first | refine Zaf htb hmz Zcd fF rfl rfl ?_ | refine Zae hmo htb hmz Zcd fF rfl rfl (by kernel_rfl) ?_); intro _ _ _ _ h; simp only [zE, evp, evx, ev1, evLoad, evStore, evBin, evIf, Zad, forall_const, z38, tb, reduceAdd, reduceSub, reduceMul, reduceEqDiff, reduceLeDiff, reduceLT, Nat.reduceBEq, Nat.reduceBNe, ↓reduceIte, reduceIte, spAx, exS, ctrS, Za1, Za3, Za2, true_and, and_true] at h; obtain ⟨rfl, rfl, rfl, rfl⟩ := h; refine ⟨?_, ?_⟩) | ((with_reducible refine Ob.mk ?_); first | exact trivial | (intros; omega) | ((repeat' first | apply And.intro | (intro a; have b := a; try simp only [zH] at b)) <;> first | assumption | omega | (simp only [zH]; omega)))
      refine Zax rfl rfl (Zdv ⟨1, .bool true, [(0, some glB)]⟩ [] rfl rfl (Zca rfl) ?_)
      simp only [grR, zE, evp, evx, ev1, evLoad, evStore, evBin, evIf, Zad, forall_const, z38, tb, reduceAdd, reduceSub, reduceMul, reduceEqDiff, reduceLeDiff, reduceLT, Nat.reduceBEq, Nat.reduceBNe, ↓reduceIte, reduceIte, spAx, exS, ctrS, Za1, Za3, Za2, true_and, and_true]
    · exact fun h => absurd rfl h
def gvnS : Spec
  | [.agg (.cons (.roI s) (.cons (.roI l) .nil))] => some ⟨True, .agg (.cons (.roI s) (.cons (.roI l) .nil)), none⟩
  | _ => none
def smpS : Spec
  | [.agg (.cons (.roI s) (.cons (.roI l) .nil)), .agg (.cons (.roI s2) (.cons (.roI l2) .nil))] => some ⟨True, .bool (decide (s = s2) && decide (l = l2)), none⟩
  | _ => none
set_option maxRecDepth 4000 in
set_option maxHeartbeats 4000000 in
theorem gvn_ok : Zb2 Tryd.prog 18 gvnS := by
  refine Za8 htb (fn := Tryd.f18) (by kernel_rfl) (by kernel_rfl) rfl (fun args r hS => ?_) (fun args r hS hob hl => ?_)
  · unfold gvnS at hS; split at hS <;> first | (cases hS; done) | (cases hS; exact Nat.le_of_ble_eq_true rfl)
  unfold gvnS at hS
  split at hS
  case h_2 => cases hS
  rename_i s l
  simp only [Option.some.injEq] at hS
  subst hS
  simp only [lenP, mkL, lim] at hl
  dsimp only at hob
  repeat' first
    | with_reducible first | apply Zar | apply Zan | apply Zaa | apply Zac | apply Zah | apply Zap | apply Zag | apply Zaj | apply Zaq | apply Zas | apply Zao | apply Zal | apply Zab | apply Zak
    | ((with_reducible refine Zai ?_ ?_); exact rfl) | ((with_reducible refine Zat ?_); refine Zam rfl ?_ ?_ <;> intro hb <;> (try simp only [zH] at hb)) | ((with_reducible refine Zaz ?_); (first | refine Zaf htb hmz noSp fF rfl rfl ?_ | refine Zae hmo htb hmz noSp fF rfl rfl (by kernel_rfl) ?_); intro _ _ _ _ h; simp only [zE, evp, evx, ev1, evLoad, evStore, evBin, evIf, Zad, forall_const, z38, tb, reduceAdd, reduceSub, reduceMul, reduceEqDiff, reduceLeDiff, reduceLT, Nat.reduceBEq, Nat.reduceBNe, ↓reduceIte, reduceIte] at h; obtain ⟨rfl, rfl, rfl, rfl⟩ := h; refine ⟨?_, ?_⟩) | ((with_reducible refine Ob.mk ?_); first | exact trivial | (intros; omega) | ((repeat' first | apply And.intro | (intro a; have b := a; try simp only [zH] at b)) <;> first | assumption | omega | (simp only [zH]; omega)))
  refine Zax rfl rfl (Zaw rfl ?_ rfl)
  rfl
set_option maxRecDepth 4000 in
set_option maxHeartbeats 4000000 in
theorem gtp_ok : Zb2 Tryd.prog 14 gvnS := by
  refine Za8 htb (fn := Tryd.f14) (by kernel_rfl) (by kernel_rfl) rfl (fun args r hS => ?_) (fun args r hS hob hl => ?_)
  · unfold gvnS at hS; split at hS <;> first | (cases hS; done) | (cases hS; exact Nat.le_of_ble_eq_true rfl)
  unfold gvnS at hS
  split at hS
  case h_2 => cases hS
  rename_i s l
  simp only [Option.some.injEq] at hS
  subst hS
  simp only [lenP, mkL, lim] at hl
  dsimp only at hob
  repeat' first
    | with_reducible first | apply Zar | apply Zan | apply Zaa | apply Zac | apply Zah | apply Zap | apply Zag | apply Zaj | apply Zaq | apply Zas | apply Zao | apply Zal | apply Zab | apply Zak
    | ((with_reducible refine Zai ?_ ?_); exact rfl) | ((with_reducible refine Zat ?_); refine Zam rfl ?_ ?_ <;> intro hb <;> (try simp only [zH] at hb)) | ((with_reducible refine Zaz ?_); (first | refine Zaf htb hmz noSp fF rfl rfl ?_ | refine Zae hmo htb hmz noSp fF rfl rfl (by kernel_rfl) ?_); intro _ _ _ _ h; simp only [zE, evp, evx, ev1, evLoad, evStore, evBin, evIf, Zad, forall_const, z38, tb, reduceAdd, reduceSub, reduceMul, reduceEqDiff, reduceLeDiff, reduceLT, Nat.reduceBEq, Nat.reduceBNe, ↓reduceIte, reduceIte] at h; obtain ⟨rfl, rfl, rfl, rfl⟩ := h; refine ⟨?_, ?_⟩) | ((with_reducible refine Ob.mk ?_); first | exact trivial | (intros; omega) | ((repeat' first | apply And.intro | (intro a; have b := a; try simp only [zH] at b)) <;> first | assumption | omega | (simp only [zH]; omega)))
  refine Zax rfl rfl (Zaw rfl ?_ rfl)
  rfl
noncomputable def spSp : Nat → Option Spec
  | 34 => some Zdu
  | _ => none
theorem spSp_ok : SpOK Tryd.prog spSp := by
  intro f S h
  unfold spSp at h
  split at h
  · cases h; exact list_ok
  · cases h
set_option maxRecDepth 4000 in
set_option maxHeartbeats 4000000 in
theorem smp_ok : Zb2 Tryd.prog 13 smpS := by
  refine Za8 htb (fn := Tryd.f13) (by kernel_rfl) (by kernel_rfl) rfl (fun args r hS => ?_) (fun args r hS hob hl => ?_)
  · unfold smpS at hS; split at hS <;> first | (cases hS; done) | (cases hS; exact Nat.le_of_ble_eq_true rfl)
  unfold smpS at hS
  split at hS
  case h_2 => cases hS
  rename_i s l s2 l2
  simp only [Option.some.injEq] at hS
  subst hS
  simp only [lenP, mkL, lim] at hl
  dsimp only at hob
  repeat' first
    | with_reducible first | apply Zar | apply Zan | apply Zaa | apply Zac | apply Zah | apply Zap | apply Zag | apply Zaj | apply Zaq | apply Zas | apply Zao | apply Zal | apply Zab | apply Zak
    | ((with_reducible refine Zai ?_ ?_); exact rfl) | ((with_reducible refine Zat ?_); refine Zam rfl ?_ ?_ <;> intro hb <;> (try simp only [zH] at hb)) | ((with_reducible refine Zaz ?_); (first | refine Zaf htb hmz spSp_ok fF rfl rfl ?_ | refine Zae hmo htb hmz spSp_ok fF rfl rfl (by kernel_rfl) ?_); intro _ _ _ _ h; simp only [zE, evp, evx, ev1, evLoad, evStore, evBin, evIf, Zad, forall_const, z38, tb, reduceAdd, reduceSub, reduceMul, reduceEqDiff, reduceLeDiff, reduceLT, Nat.reduceBEq, Nat.reduceBNe, ↓reduceIte, reduceIte, spSp, Zdu] at h; obtain ⟨rfl, rfl, rfl, rfl⟩ := h; refine ⟨?_, ?_⟩) | ((with_reducible refine Ob.mk ?_); first | exact trivial | (intros; omega) | ((repeat' first | apply And.intro | (intro a; have b := a; try simp only [zH] at b)) <;> first | assumption | omega | (simp only [zH]; omega)))
  refine Zax rfl rfl (Zaw rfl ?_ rfl)
  rfl
open Go
section
variable {P : Program} {ro : Option Nat} {N κ : Nat} {tb : Nat → Option TI} {sp : Nat → Option Spec}
theorem wpOps_seg {F : Fence} {n : Nat} {ops : Array Oper} {Q : Exit → Act → World → Prop} (l : List Oper) : ∀ k, (∀ j, j < l.length → l[j]? = ops[k + j]?) → wpOpsIn F n P ops Q (List.range' k l.length) = wpListIn F n P ops Q l := by
  induction l with
  | nil => intro k _; funext a w; simp [wpOpsIn, wpListIn]
  | cons o l ih =>
    intro k h
    have h0 : ops[k]? = some o := by simpa using (h 0 (by simp)).symm
    have ih' := ih (k + 1) (fun j hj => by have := h (j + 1) (by simpa using hj); simpa [Nat.add_assoc, Nat.add_comm 1 j] using this)
    funext a w
    simp only [List.length_cons, List.range'_succ, wpOpsIn, h0, wpListIn, ih']
theorem awpG_text (htb : Zcz P tb) (hmz : ∀ t i, tb t = some i → men noK i.zero = true) (hsp : SpOK P sp) (ch : Nat → Bool) (k : Nat) {m : Nat} {all os post : List Oper} (pre : List Oper) {env : List (Nat × AV)} {l : List (Nat × Option Blk)} {ms : List Nat} {Q : Exit → St → Prop} (hall : all = pre ++ (os ++ post)) (hk : pre.length = k) (hN : Zdj N os = true) (hκ : Nat.ble κ (m + k) = true)
    (h : ∀ m' e' l' ob, evOut tb sp ch m all os k ⟨m + k, env, l, True⟩ = ⟨m', e', l', ob⟩ → Ob ob ∧ awpG P ro N κ all.toArray post (CS.st ⟨m', e', l', ms⟩) Q) : awpG P ro N κ all.toArray (os ++ post) (CS.st ⟨m + k, env, l, ms⟩) Q := by
  obtain ⟨hob, hq⟩ := h _ _ _ _ rfl
  obtain ⟨h1, h2, h3, h4⟩ := Zd5 ch m all os k (m + k) env l True hob
  rw [h1, h2, h4] at hq
  obtain ⟨g1, g2, μ', g3, g4, g5⟩ := Zd6 (ro := ro) (N := N) htb hmz hsp ch m all ms os k env l (ltK (m + k)) hN (fun j hj => by show Nat.blt j (m + k) = false; cases hb : Nat.blt j (m + k) with | false => rfl | true => rw [Nat.blt_eq] at hb; omega) h3
  intro n K Z ν w a hg
  refine Zek (Zcb (Q := Post N κ K Z w ν fun e s => e = .normal ∧ s = ⟨μ', lke (Zbv tb sp ch m all os k env l).env, lkr (Zbv tb sp ch m all os k env l).l, ms⟩) ?_ ?_)
  · rintro e a' w' ⟨Z', ν', s', q1, q2, q3, rfl, rfl⟩
    have := hq n _ _ ν' w' a' (q3.widen fun j hj => by
      show Nat.blt j (m + k + os.length) = true
      rw [Nat.blt_eq]
      rcases Nat.lt_or_ge j (m + k + os.length) with h | h
      · exact h
      · rw [g3 j h] at hj; cases hj)
    exact Zcb (fun e a2 w2 hp => hp.trans q1 q2) this
  · rw [← wpOps_seg os k fun j hj => by rw [List.getElem?_toArray, hall, List.getElem?_append_right (by omega), hk, show k + j - k = j from by omega, List.getElem?_append_left hj]]
    refine Zgz (its := fun x => Zbm (Zbv tb sp ch m all os k env l).its (x - k)) (σ' := ⟨μ', lke (Zbv tb sp ch m all os k env l).env, lkr (Zbv tb sp ch m all os k env l).l, ms⟩) ⟨rfl, rfl⟩ (List.range' k os.length) (CS.st ⟨m + k, env, l, ms⟩) (fun i hi => ?_) (fun j hj => ?_) g5 n K Z ν w a hg
    · rw [List.mem_range'] at hi
      obtain ⟨q, hq, rfl⟩ := hi
      refine ⟨os[q], ?_, ?_⟩
      · rw [List.getElem?_toArray, hall, List.getElem?_append_right (by omega), hk, show k + 1 * q - k = q from by omega, List.getElem?_append_left hq, List.getElem?_eq_getElem hq]
      · have := g2 q _ (List.getElem?_eq_getElem hq)
        rw [show k + 1 * q - k = q by omega]
        exact this
    · show Nat.blt j (m + k) = true
      rw [Nat.blt_eq]
      have := Nat.le_of_ble_eq_true hκ
      omega
theorem awpG_textM (htb : Zcz P tb) (hmz : ∀ t i, tb t = some i → men noK i.zero = true) (hsp : SpOK P sp) (ch : Nat → Bool) (k : Nat) {m : Nat} {all os post : List Oper} (pre : List Oper) {env : List (Nat × AV)} {l : List (Nat × Option Blk)} {ms : List Nat} {Q : Exit → St → Prop} (hall : all = pre ++ (os ++ post)) (hk : pre.length = k) (hN : Zdj N os = true) (hκ : Nat.ble κ m = true) (hle : Nat.ble k m = true)
    (h : ∀ m' e' l' ob, evOut tb sp ch (m - k) all os k ⟨m, env, l, True⟩ = ⟨m', e', l', ob⟩ → Ob ob ∧ awpG P ro N κ all.toArray post (CS.st ⟨m', e', l', ms⟩) Q) : awpG P ro N κ all.toArray (os ++ post) (CS.st ⟨m, env, l, ms⟩) Q := by
  have e : m - k + k = m := Nat.sub_add_cancel (Nat.le_of_ble_eq_true hle)
  have := awpG_text (ms := ms) (Q := Q) htb hmz hsp ch k (m := m - k) pre (env := env) (l := l) hall hk hN (by rw [e]; exact hκ) (by rw [e]; exact h)
  rw [e] at this
  exact this
theorem good_slot {K Z : Nat → Prop} {w : World} {ν : Nat → Value} {m : Nat} {env : List (Nat × AV)} {l : List (Nat × Option Blk)} {ms : List Nat} {a : Act} {s : Nat} {v : AV} (hi : Imp (lke env s) v) (hm : men (ltK m) v = true) (hg : Good K Z N w ν (CS.st ⟨m, env, l, ms⟩) a) : Good K Z N w ν (CS.st ⟨m, (s, v) :: env, l, ms⟩) a := by
  refine ⟨hg.size, hg.one, fun t => ?_, hg.rs, hg.zk, hg.kl, hg.ds, hg.ml⟩
  have := hg.env t
  show men (ltK m) (lke ((s, v) :: env) t) = true ∧ R Z w (lke ((s, v) :: env) t) ν true _
  have e : lke ((s, v) :: env) t = if t = s then v else lke env t := by
    show (match Nat.beq t s with | true => v | false => lke env t) = _
    by_cases h : t = s
    · subst h; simp [Nat.beq_refl]
    · simp only [beqN h, if_neg h]
  rw [e]
  by_cases h : t = s
  · subst h
    rw [if_pos rfl]
    exact ⟨hm, hi _ _ _ _ this.2⟩
  · rw [if_neg h]; exact this
theorem awpG_slot {ops : Array Oper} {c : List Oper} {m : Nat} {env : List (Nat × AV)} {l : List (Nat × Option Blk)} {ms : List Nat} {Q : Exit → St → Prop} (s : Nat) (v : AV) (hi : Imp (lke env s) v) (hm : men (ltK m) v = true) (h : awpG P ro N κ ops c (CS.st ⟨m, (s, v) :: env, l, ms⟩) Q) : awpG P ro N κ ops c (CS.st ⟨m, env, l, ms⟩) Q :=
  fun n K Z ν w a hg => h n K Z ν w a (good_slot hi hm hg)
end
open Go Pl
def rgA (q : List Int × List Int) : AV := .agg (.cons (.roI q.1) (.cons (.roI q.2) .nil))
def rgO : AV → List Int × List Int
  | .agg (.cons (.roI w) (.cons (.roI c) .nil)) => (w, c)
  | _ => ([], [])
def Zis (q : List Int × List Int) : Bool := decide (400 < (q.1.length : Int)) || decide (400 < (q.2.length : Int))
def Zit (F : Nat → List Int × List Int) (n : Nat) : Bool := (List.range n).any fun j => Zis (F j)
def fwB (g : Gm) (s l : List Int) : Bool := (few 60 300 g && decide ((s.length : Int) ≤ 400)) && decide ((l.length : Int) ≤ 400)
def Zdw : Spec
  | [.agg (.cons (.roI o) (.cons (.roI p) (.cons (.roII x) .nil))), .agg (.cons (.roI s) (.cons (.roI l) .nil)), .ro 2 n f] => some ⟨f = fun j => rgA (rgO (f j)), .bool (!Zit (fun j => rgO (f j)) n && fwB ⟨o, p, x⟩ s l), none⟩
  | _ => none
noncomputable def spFw : Nat → Option Spec
  | 26 => some fewS
  | _ => none
theorem Zgx : SpOK Tryd.prog spFw := by
  intro f S h
  unfold spFw at h
  split at h
  · cases h; exact few_ok
  · cases h
set_option maxRecDepth 4000 in
set_option maxHeartbeats 4000000 in
theorem fw16_ok : Zb2 Tryd.prog 7 Zdw := by
  refine Za8 htb (fn := Tryd.f7) (by kernel_rfl) (by kernel_rfl) rfl (fun args r hS => ?_) (fun args r hS hob hl => ?_)
  · unfold Zdw at hS; split at hS <;> first | (cases hS; done) | (cases hS; exact Nat.le_of_ble_eq_true rfl)
  unfold Zdw at hS
  split at hS
  case h_2 => cases hS
  rename_i o p x s l n f
  simp only [Option.some.injEq] at hS
  subst hS
  simp only [lenP, mkL, lim] at hl
  dsimp only at hob
  obtain ⟨F, hF⟩ : ∃ F : Nat → List Int × List Int, ∀ j, rgO (f j) = F j := ⟨_, fun _ => rfl⟩
  have hf : f = fun j => rgA (F j) := by rw [hob]; funext j; rw [hF]
  have hF' : (fun j => rgO (f j)) = F := funext hF
  rw [hF']
  clear hob hF hF'
  subst hf
  have hany : ∀ i, i < n → Zis (F i) = true → Zit F n = true := fun i hi h => List.any_eq_true.2 ⟨i, List.mem_range.2 hi, h⟩
  repeat' first
    | with_reducible first | apply Zar | apply Zan | apply Zaa | apply Zac | apply Zah | apply Zap | apply Zag | apply Zaj | apply Zaq | apply Zas | apply Zao | apply Zal | apply Zab | apply Zak
    | ((with_reducible refine Zai ?_ ?_); exact rfl) | ((with_reducible refine Zat ?_); refine Zam rfl ?_ ?_ <;> intro hb <;> (try simp only [zH] at hb)) | ((with_reducible refine Zaz ?_); (first | refine Zaf htb hmz Zgx fF rfl rfl ?_ | refine Zae hmo htb hmz Zgx fF rfl rfl (by kernel_rfl) ?_); intro _ _ _ _ h; simp only [zE, evp, evx, ev1, evLoad, evStore, evBin, evIf, Zad, forall_const, z38, tb, reduceAdd, reduceSub, reduceMul, reduceEqDiff, reduceLeDiff, reduceLT, Nat.reduceBEq, Nat.reduceBNe, ↓reduceIte, reduceIte, spFw, fewS, rgA] at h; obtain ⟨rfl, rfl, rfl, rfl⟩ := h; refine ⟨?_, ?_⟩) | ((with_reducible refine Ob.mk ?_); first | exact trivial | (intros; omega) | ((repeat' first | apply And.intro | (intro a; have b := a; try simp only [zH] at b)) <;> first | assumption | omega | (simp only [zH]; omega)))
  refine Za5 (τ := Nat) (fun i => i ≤ n ∧ ∀ j, j < i → Zis (F j) = false) (fun i => ⟨5, [(11, .int .i64 i), (10, .int .i64 n), (9, .ro 2 n (fun j => rgA (F j))), (4, .rop (.agg (.cons (.roI s) (.cons (.roI l) .nil)))), (3, .rop (.agg (.cons (.roI o) (.cons (.roI p) (.cons (.roII x) .nil)))))], [], []⟩) (fun i => n - i) 0 [] ?_ ⟨Nat.zero_le _, fun j hj => absurd hj (Nat.not_lt_zero j)⟩ ?_
  · (refine ⟨rfl, ?_, ?_⟩ <;> simp only [zE, evp, evx, ev1, evLoad, evStore, evBin, evIf, Zad, forall_const, z38, tb, reduceAdd, reduceSub, reduceMul, reduceEqDiff, reduceLeDiff, reduceLT, Nat.reduceBEq, Nat.reduceBNe, ↓reduceIte, reduceIte, spFw, fewS, rgA, zI])
  rintro i ⟨hi, hk⟩
  repeat' first
    | with_reducible first | apply Zar | apply Zan | apply Zaa | apply Zac | apply Zah | apply Zap | apply Zag | apply Zaj | apply Zaq | apply Zas | apply Zao | apply Zal | apply Zab | apply Zak
    | ((with_reducible refine Zai ?_ ?_); exact rfl) | ((with_reducible refine Zat ?_); refine Zam rfl ?_ ?_ <;> intro hb <;> (try simp only [zH] at hb)) | ((with_reducible refine Zaz ?_); (first | refine Zaf htb hmz Zgx fF rfl rfl ?_ | refine Zae hmo htb hmz Zgx fF rfl rfl (by kernel_rfl) ?_); intro _ _ _ _ h; simp only [zE, evp, evx, ev1, evLoad, evStore, evBin, evIf, Zad, forall_const, z38, tb, reduceAdd, reduceSub, reduceMul, reduceEqDiff, reduceLeDiff, reduceLT, Nat.reduceBEq, Nat.reduceBNe, ↓reduceIte, reduceIte, spFw, fewS, rgA] at h; obtain ⟨rfl, rfl, rfl, rfl⟩ := h; refine ⟨?_, ?_⟩) | ((with_reducible refine Ob.mk ?_); first | exact trivial | (intros; omega) | ((repeat' first | apply And.intro | (intro a; have b := a; try simp only [zH] at b)) <;> first | assumption | omega | (simp only [zH]; omega)))
  · refine Zax rfl rfl (Zaw rfl ?_ rfl)
    have : Zit F n = true := hany i (by omega) (by
      unfold Zis
      rw [Bool.or_eq_true, decide_eq_true_eq, decide_eq_true_eq]
      exact hb)
    rw [this]
    rfl
  · refine back (i + 1) [] ?_ ⟨by omega, fun j hj => ?_⟩ (by omega)
    · (refine ⟨rfl, ?_, ?_⟩ <;> simp only [zE, evp, evx, ev1, evLoad, evStore, evBin, evIf, Zad, forall_const, z38, tb, reduceAdd, reduceSub, reduceMul, reduceEqDiff, reduceLeDiff, reduceLT, Nat.reduceBEq, Nat.reduceBNe, ↓reduceIte, reduceIte, spFw, fewS, rgA, zI])
    · rcases Nat.lt_succ_iff_lt_or_eq.1 hj with h | rfl
      · exact hk j h
      · unfold Zis
        rw [Bool.or_eq_false_iff, decide_eq_false_iff_not, decide_eq_false_iff_not]
        omega
  · refine Zax rfl rfl (Zaw rfl ?_ rfl)
    have hin : i = n := by omega
    have : Zit F n = false := by
      unfold Zit
      rw [List.any_eq_false]
      intro j hj
      rw [hk j (by rw [hin]; exact List.mem_range.1 hj)]
      decide
    rw [this]
    rfl
theorem imp_ro {sz n : Nat} {f g : Nat → AV} (h : ∀ j, j < n → f j = g j) : Imp (.ro sz n f) (.ro sz n g) := by
  intro Z w ν cs ⟨A, cap, e, h1, h2, h3⟩
  refine ⟨A, cap, e, h1, h2, fun hn => ?_⟩
  obtain ⟨b, q, eA, hz, hj⟩ := h3 hn
  refine ⟨b, q, eA, hz, fun j hjn => ?_⟩
  obtain ⟨es, r, hl, hc⟩ := hj j hjn
  exact ⟨es, by dsimp only; rw [← h j hjn]; exact r, hl, hc⟩
end Go.Proofs.YtdhoadhkkecjjaaDoor.Cal
