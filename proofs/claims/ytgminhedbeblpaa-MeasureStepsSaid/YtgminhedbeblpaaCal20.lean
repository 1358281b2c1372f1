/- Regions, by the table; weaker states; the rules over written-out states. -/
import Derived.Test.YtgminhedbeblpaaCal19
set_option linter.unusedVariables false
set_option linter.unusedSimpArgs false
namespace Go.Proofs.Ytgminhedbeblpaa.Cal
open Go

section
variable {P : Program} {ro : Option Nat} {N κ : Nat} {tb : Nat → Option TI} {sp : Nat → Option Spec}

def dstOK (N : Nat) : List Oper → Bool
  | [] => true
  | o :: t => (match o.dst with | some d => Nat.blt d N | none => true) && dstOK N t

theorem runsTo_congr {its its' : Nat → Item} : ∀ {L : List Nat} {s s' : St}, (∀ i, i ∈ L → its i = its' i) → runsTo N its L s s' → runsTo N its' L s s' := by
  intro L
  induction L with
  | nil => intro s s' _ h; exact h
  | cons i L ih =>
    intro s s' he h
    obtain ⟨f, h⟩ := h
    have e := he i List.mem_cons_self
    exact ⟨e ▸ f, by rw [← e]; exact ih (fun j hj => he j (List.mem_cons_of_mem _ hj)) h⟩

theorem evOps_ok (htb : TabOK P tb) (hmz : ∀ t i, tb t = some i → men noK i.zero = true) (hsp : SpOK P sp) (ch : Nat → Bool) (m : Nat) (all : List Oper) (ms : List Nat) : ∀ (os : List Oper) (i : Nat) (e : List (Nat × AV)) (l : List (Nat × Option Blk)) (μ : Nat → Bool), dstOK N os = true →
    (∀ k, m + i ≤ k → μ k = false) → (evOps tb sp ch m all os i e l).ob → (evOps tb sp ch m all os i e l).its.length = os.length ∧ (∀ j o, os[j]? = some o → OpRun P ro N all.toArray o (itemAt (evOps tb sp ch m all os i e l).its j)) ∧
      ∃ μ', (∀ k, m + i + os.length ≤ k → μ' k = false) ∧ (∀ k, μ k = true → μ' k = true) ∧
        runsTo N (fun x => itemAt (evOps tb sp ch m all os i e l).its (x - i)) (List.range' i os.length) ⟨μ, lke e, lkr l, ms⟩ ⟨μ', lke (evOps tb sp ch m all os i e l).env, lkr (evOps tb sp ch m all os i e l).l, ms⟩ := by
  intro os
  induction os with
  | nil => intro i e l μ _ hμ _; exact ⟨rfl, fun j o h => by simp at h, μ, hμ, fun _ h => h, rfl⟩
  | cons o os ih =>
    intro i e l μ hN hμ hob
    simp only [dstOK, Bool.and_eq_true] at hN
    simp only [evOps] at hob ⊢
    cases hev : evo tb sp all (opv (lke e)) l (m + i) (ch i) o with
    | none => rw [hev] at hob; exact hob.elim
    | some r =>
      rw [hev] at hob
      dsimp only at hob ⊢
      obtain ⟨h1, h2, h3⟩ := evo_ok (ro := ro) (N := N) htb hmz hsp all o hev hob.1
      have hμ' : ∀ k, m + (i + 1) ≤ k → addK μ r.kn k = false := by
        intro k hk
        have h0 := hμ k (by omega)
        rcases h3 with h3 | h3
        · rw [h3]; exact h0
        · rw [h3]
          simp only [addK, h0, Bool.false_or]
          exact beqN (by omega)
      obtain ⟨g1, g2, μ', g3, g4, g5⟩ := ih (i + 1) (putE o.dst r.val e) (setW r.wr l) (addK μ r.kn) hN.2 hμ' hob.2
      refine ⟨by simp [g1], fun j o' hj => ?_, μ', fun k hk => g3 k (by simp at hk; omega), fun k hk => g4 k (addK_le k hk), ?_⟩
      · cases j with
        | zero => simp at hj; subst hj; exact h1
        | succ j => exact g2 j o' hj
      · rw [List.length_cons, List.range'_succ]
        refine ⟨?_, ?_⟩
        · show Fits N (itemAt _ (i - i)) _
          rw [Nat.sub_self]
          refine ⟨fun p hp => ?_, h2, fun k hk => ?_, fun d hd => ?_⟩
          · obtain ⟨t, _, rfl⟩ := List.mem_map.1 hp
            rfl
          · have hk : r.kn = some k := hk
            rcases h3 with h3 | h3
            · rw [h3] at hk; cases hk
            · rw [h3] at hk; cases hk; exact hμ _ (Nat.le_refl _)
          · have hd : o.dst = some d := hd
            rw [hd] at hN
            simpa using hN.1
        · show runsTo N _ _ ((itemAt _ (i - i)).app _) _
          rw [Nat.sub_self]
          have happ : (itemAt (⟨o.dst, (tmpsOf o.op.operands.toList ++ guardTmp all o).map (fun t => (t, lke e t)), r.val, r.rd, r.wr, r.kn⟩ :: (evOps tb sp ch m all os (i + 1) (putE o.dst r.val e) (setW r.wr l)).its) 0).app ⟨μ, lke e, lkr l, ms⟩ = ⟨addK μ r.kn, lke (putE o.dst r.val e), lkr (setW r.wr l), ms⟩ := by
            rw [putE_lke, lkr_setW]; rfl
          rw [happ]
          refine runsTo_congr (fun x hx => ?_) g5
          have : i + 1 ≤ x := by
            rw [List.mem_range'] at hx
            obtain ⟨q, _, rfl⟩ := hx
            omega
          obtain ⟨q, rfl⟩ : ∃ q, x = i + 1 + q := ⟨x - (i + 1), by omega⟩
          show itemAt _ (i + 1 + q - (i + 1)) = itemAt (_ :: _) (i + 1 + q - i)
          rw [show i + 1 + q - (i + 1) = q from by omega, show i + 1 + q - i = q + 1 from by omega]
          rfl

theorem Good.widen {K Z : Nat → Prop} {w : World} {ν : Nat → Value} {μ μ' : Nat → Bool} {env : Env} {rs : Rs} {ms : List Nat} {a : Act} (hg : Good K Z N w ν ⟨μ, env, rs, ms⟩ a) (h : ∀ k, μ k = true → μ' k = true) : Good K Z N w ν ⟨μ', env, rs, ms⟩ a :=
  ⟨hg.size, hg.one, fun s => ⟨men_le h (hg.env s).1, (hg.env s).2⟩, hg.rs.nu h (fun _ _ => rfl), hg.zk, hg.kl, hg.ds, fun k hk => h k (hg.ml k hk)⟩

theorem awp_widen {c : Code} {σ : St} {s : CS} {μ' : Nat → Bool} {env : List (Nat × AV)} {l : List (Nat × Option Blk)} {ms : List Nat} {m' : Nat} {Q : Exit → St → Prop} (h : awp P ro N κ c σ fun e s => e = .normal ∧ s = ⟨μ', lke env, lkr l, ms⟩) (hμ : ∀ k, m' ≤ k → μ' k = false) (hq : Q .normal (CS.st ⟨m', env, l, ms⟩)) : awp P ro N κ c σ Q := by
  intro n K Z ν w a hg
  refine wpIn_mono (h n K Z ν w a hg) ?_
  rintro e a' w' ⟨Z', ν', s', h1, h2, h3, rfl, rfl⟩
  refine ⟨Z', ν', _, h1, h2, h3.widen fun k hk => ?_, hq⟩
  show Nat.blt k m' = true
  rw [Nat.blt_eq]
  rcases Nat.lt_or_ge k m' with h | h
  · exact h
  · rw [hμ k h] at hk; cases hk

/-- A region whose order the text gives. -/
theorem awp_text (htb : TabOK P tb) (hmz : ∀ t i, tb t = some i → men noK i.zero = true) (hsp : SpOK P sp) (ch : Nat → Bool) {id : Nat} {ops : List Oper} {s : CS} {Q : Exit → St → Prop} (hN : dstOK N ops = true) (hκ : Nat.ble κ s.m = true)
    (h : ∀ q, q = evOps tb sp ch s.m ops ops 0 s.env s.rs → q.ob ∧ Q .normal (CS.st ⟨s.m + ops.length, q.env, q.l, s.ms⟩)) : awp P ro N κ (.region id ops.toArray false) s.st Q := by
  obtain ⟨hob, hq⟩ := h _ rfl
  obtain ⟨h1, h2, μ', h3, h4, h5⟩ := evOps_ok (ro := ro) (N := N) htb hmz hsp ch s.m ops s.ms ops 0 s.env s.rs (ltK s.m) hN (fun k hk => by show Nat.blt k s.m = false; cases hb : Nat.blt k s.m with | false => rfl | true => rw [Nat.blt_eq] at hb; omega) hob
  refine awp_widen (s := s) (μ' := μ') ?_ (m' := s.m + ops.length) (fun k hk => h3 k (by omega)) hq
  intro n K Z ν w a hg
  refine wpIn_region ?_
  rw [List.size_toArray, List.range_eq_range']
  refine run_text (its := fun x => itemAt (evOps tb sp ch s.m ops ops 0 s.env s.rs).its (x - 0)) (σ' := ⟨μ', lke (evOps tb sp ch s.m ops ops 0 s.env s.rs).env, lkr (evOps tb sp ch s.m ops ops 0 s.env s.rs).l, s.ms⟩) ⟨rfl, rfl⟩ (List.range' 0 ops.length) s.st (fun i hi => ?_) (fun k hk => ?_) h5 n K Z ν w a hg
  · rw [List.mem_range'] at hi
    obtain ⟨q, hq, rfl⟩ := hi
    have hlt : 0 + 1 * q < ops.length := by omega
    refine ⟨ops[0 + 1 * q], by simp, ?_⟩
    exact h2 _ _ (List.getElem?_eq_getElem hlt)
  · show Nat.blt k s.m = true
    rw [Nat.blt_eq]
    have := Nat.le_of_ble_eq_true hκ
    omega

theorem Good.drew {K Z : Nat → Prop} {w : World} {ν : Nat → Value} {σ : St} {a : Act} (hg : Good K Z N w ν σ a) (d : Nat) : Good K Z N { w with drawn := d } ν σ a := by
  have hz : ∀ b, Z b → ({ w with drawn := d } : World).heap[b]? = w.heap[b]? := fun _ _ => rfl
  refine ⟨hg.size, hg.one, fun s => ⟨(hg.env s).1, R_mono (fun _ h => h) hz (hg.env s).2⟩, hg.rs.mono (fun _ h => h) hz (Nat.le_refl _) (fun _ h => .inl h) (fun _ _ _ => rfl), hg.zk, hg.kl, hg.ds, hg.ml⟩

/-- A region whose order is open: its operations do not meet, but where an edge orders them. -/
theorem awp_draw (hmo : P.follows .mixedOrders = true) (htb : TabOK P tb) (hmz : ∀ t i, tb t = some i → men noK i.zero = true) (hsp : SpOK P sp) (ch : Nat → Bool) {id : Nat} {ops : List Oper} {s : CS} {Q : Exit → St → Prop} (hN : dstOK N ops = true) (hκ : Nat.ble κ s.m = true)
    (hd : drawOK ops (evOps tb sp ch s.m ops ops 0 s.env s.rs).its = true)
    (h : ∀ q, q = evOps tb sp ch s.m ops ops 0 s.env s.rs → q.ob ∧ Q .normal (CS.st ⟨s.m + ops.length, q.env, q.l, s.ms⟩)) : awp P ro N κ (.region id ops.toArray true) s.st Q := by
  obtain ⟨hob, hq⟩ := h _ rfl
  obtain ⟨h1, h2, μ', h3, h4, h5⟩ := evOps_ok (ro := ro) (N := N) htb hmz hsp ch s.m ops s.ms ops 0 s.env s.rs (ltK s.m) hN (fun k hk => by show Nat.blt k s.m = false; cases hb : Nat.blt k s.m with | false => rfl | true => rw [Nat.blt_eq] at hb; omega) hob
  refine awp_widen (s := s) (μ' := μ') ?_ (m' := s.m + ops.length) (fun k hk => h3 k (by omega)) hq
  intro n K Z ν w a hg
  refine wpIn_region_any hmo ?_
  have hstep : Step K Z w Z { w with drawn := w.drawn + 1 } := ⟨⟨rfl, rfl, rfl, Nat.le_refl _, fun _ _ => rfl⟩, fun _ h => h, fun _ h => .inl h⟩
  have hg1 := hg.drew (w.drawn + 1)
  have h5' : runsTo N (itemAt (evOps tb sp ch s.m ops ops 0 s.env s.rs).its) (List.range' 0 ops.length) s.st ⟨μ', lke (evOps tb sp ch s.m ops ops 0 s.env s.rs).env, lkr (evOps tb sp ch s.m ops ops 0 s.env s.rs).l, s.ms⟩ := h5
  have := run_any (P := P) (ro := ro) (N := N) (κ := κ) (ops := ops.toArray) (Q := fun e s' => e = .normal ∧ s' = ⟨μ', lke (evOps tb sp ch s.m ops ops 0 s.env s.rs).env, lkr (evOps tb sp ch s.m ops ops 0 s.env s.rs).l, s.ms⟩) (evOps tb sp ch s.m ops ops 0 s.env s.rs).its hd
    (fun i hi => ⟨ops[i]'(by simpa using hi), by simp, h2 _ _ (List.getElem?_eq_getElem (by simpa using hi))⟩) ⟨rfl, rfl⟩ ops.toArray.size (Array.replicate ops.toArray.size false) (List.range' 0 ops.length) s.st (by simp) (by simp)
    (fun i => by
      rw [List.mem_range']
      constructor
      · rintro ⟨q, hq, rfl⟩
        refine ⟨by simp; omega, ?_⟩
        simp [Array.getD_eq_getD_getElem?, Array.getElem?_replicate, hq]
      · rintro ⟨h, _⟩
        exact ⟨i, by simpa using h, by omega⟩)
    (by simpa using List.pairwise_lt_range' (s := 0) (n := ops.length))
    (fun i o ho hl p hp => by
      have hi : i < ops.length := by have := (Array.getElem?_eq_some_iff.1 ho).1; simpa using this
      simp [Array.getD_eq_getD_getElem?, Array.getElem?_replicate, hi] at hl)
    (fun k hk => by
      show Nat.blt k s.m = true
      rw [Nat.blt_eq]
      have := Nat.le_of_ble_eq_true hκ
      omega) h5' n K Z ν _ a hg1
  exact run_any.wpAnyIn_mono' this fun e a' w' hp => by
    have e := Post.trans (N := N) (κ := κ) (K := K) (Z := Z) (w := w) (ν := ν) hstep (fun _ _ => rfl) (by rw [un_self hg.zk]; exact hp)
    exact e
end

end Go.Proofs.Ytgminhedbeblpaa.Cal
