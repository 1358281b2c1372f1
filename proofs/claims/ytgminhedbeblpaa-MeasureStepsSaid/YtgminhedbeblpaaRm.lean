/- From a row's arguments to the calculus: measures. -/
import Derived.Test.YtgminhedbeblpaaRw
import Derived.Test.YtgminhedbeblpaaW14d
set_option linter.unusedVariables false
set_option linter.unusedSimpArgs false
namespace Go.Proofs.Ytgminhedbeblpaa.Cal
open Go Go.ChangeShapes Go.WideShapes Go.ChangeAt Go.RowKit Go.Deep

section
variable {H : Type} {enc : TypeId × Value → H} {P : Program} {w : World} {base : Nat} {spare : Nat → Bool} {held : Bool}

/-- The two cells of a measure. -/
theorem rd_mcells {f0 f1 : Field} {e1 n n' : Nat} {c0 c1 : Value} {y0 y1 : DataW H × List MemPlace} (h0 : P.underlying f0.type = some .bool) (h1 : P.underlying f1.type = some (.slice e1)) (he1 : P.underlying e1 = some (.int .i64)) (hc1 : P.cellsOf e1 = 1) (hB1 : 1 ≤ P.bytesOf e1)
    (t0 : DataW.trod enc P w base spare held n f0.type [c0] = some y0) (t1 : DataW.trod enc P w base spare held n' f1.type [c1] = some y1) (hl : light P f1.type y1.1) : ∃ m : Bool × List Int, R (old w) w (msA m) nu0 false [c0, c1] := by
  obtain ⟨b, hb, _⟩ := DataW.trod_bool h0 t0
  obtain ⟨l, hr⟩ := rd_ints h1 he1 hc1 hB1 t1 hl nu0 true
  have hb : [c0] = [.bool b] := hb
  simp only [List.cons.injEq, and_true] at hb
  subst hb
  exact ⟨(b, l), .bool b, [c1], rfl, rfl, c1, [], rfl, hr, rfl⟩

/-- A measure among the arguments. -/
theorem rd_mes {r : Reach} {b0 t : Nat} {f0 f1 : Field} {v : Value} {d : DataW H} {p : List MemPlace} (hs : P.underlying t = some (.struct #[f0, f1])) (hone : oneCellFields P #[f0, f1] = true) (hC : P.cellsOf t = 2) (hv : Value.okWide P w r b0 t v) (h : DataW.Trod enc P w base spare held t v d p) (hl : light P t d)
    {e1 : Nat} (h0 : P.underlying f0.type = some .bool) (h1 : P.underlying f1.type = some (.slice e1)) (he1 : P.underlying e1 = some (.int .i64)) (hc1 : P.cellsOf e1 = 1) (hB1 : 1 ≤ P.bytesOf e1) : ∃ m : Bool × List Int, R (old w) w (msA m) nu0 true [v] := by
  obtain ⟨v0, v1, y0, y1, n, rfl, rfl, rfl, t0, t1⟩ := Go.Joins.open_agg2 hs hone hC hv h
  have hw : ∀ k, k ∈ y1.1.weights P f1.type → k ≤ 140737488351232 := fun k hk => hl k (by
    simp only [DataW.weights, hs, DataW.weightsEach, List.mem_append, List.map_cons, List.map_nil, List.not_mem_nil, or_false]
    exact .inr hk)
  obtain ⟨m, hm⟩ := rd_mcells h0 h1 he1 hc1 hB1 t0 t1 hw
  exact ⟨m, [v0, v1], rfl, hm⟩

/-- A slice of measures. -/
theorem rd_mess {t e fuel : Nat} {f0 f1 : Field} {v : Value} {x : DataW H × List MemPlace} (ht : P.underlying t = some (.slice e)) (hs : P.underlying e = some (.struct #[f0, f1])) (hone : oneCellFields P #[f0, f1] = true) (hC : P.cellsOf e = 2) (hB : 1 ≤ P.bytesOf e)
    {e1 : Nat} (h0 : P.underlying f0.type = some .bool) (h1 : P.underlying f1.type = some (.slice e1)) (he1 : P.underlying e1 = some (.int .i64)) (hc1 : P.cellsOf e1 = 1) (hB1 : 1 ≤ P.bytesOf e1)
    (h : DataW.trod enc P w base spare held fuel t [v] = some x) (hl : light P t x.1) : ∃ (n : Nat) (F : Nat → Bool × List Int), R (old w) w (.ro 2 n (fun j => msA (F j))) nu0 true [v] := by
  rcases open_slice ht h with ⟨hcs, _⟩ | ⟨a, len, cap, m, n, D, Pl, hcs, hba, hle, hcap, hm, hx, hel2⟩
  · cases hcs
    exact ⟨0, fun _ => (false, []), none, 0, rfl, Nat.le_refl _, Nat.zero_le _, fun h => absurd h (Nat.lt_irrefl 0)⟩
  · cases hcs
    subst hx
    rw [hC] at hel2
    have hlm : len ≤ m := by rw [hm]; split <;> omega
    have hex : ∀ i, i < len → ∃ (F : Bool × List Int) (c0 c1 : Value), R (old w) w (msA F) nu0 false [c0, c1] ∧ w.cell? (a.add (i * 2)) = some c0 ∧ w.cell? (a.add (i * 2 + 1)) = some c1 := fun i hi => by
      obtain ⟨cs, hc, htr⟩ := hel2 i (by omega)
      obtain ⟨_, hlen, hcell⟩ := World.cells?_some hc
      match cs, hlen with
      | [c0, c1], _ =>
        obtain ⟨y0, y1, n', hy, _, t0, t1⟩ := trod_struct2 hs htr
        obtain ⟨o0, k0⟩ := hone_of hone 0 f0 rfl
        obtain ⟨o1, k1⟩ := hone_of hone 1 f1 rfl
        have hw : ∀ k, k ∈ y1.1.weights P f1.type → k ≤ 140737488351232 := fun k hk => hl k (by
          have hD : D i = .agg [y0.1, y1.1] := congrArg Prod.fst hy
          simp only [DataW.weights, ht, List.mem_cons, List.mem_append]
          refine .inr (.inl (weights_all (d := D i) (List.mem_map.2 ⟨i, List.mem_range.2 hi, rfl⟩) k ?_))
          rw [hD]
          simp only [DataW.weights, hs, DataW.weightsEach, List.mem_append, List.map_cons, List.map_nil, List.not_mem_nil, or_false]
          exact .inr hk)
        obtain ⟨M, hM⟩ := rd_mcells (c0 := c0) (c1 := c1) h0 h1 he1 hc1 hB1 (by simpa [o0, k0] using t0) (by simpa [o1, k1] using t1) hw
        refine ⟨M, c0, c1, hM, ?_, ?_⟩
        · have := hcell 0 (by omega); rw [Addr.add_add] at this; exact this
        · have := hcell 1 (by omega); rw [Addr.add_add] at this; exact this
    obtain ⟨F, hF⟩ : ∃ F : Nat → Bool × List Int, ∀ i, i < len → ∃ (c0 c1 : Value), R (old w) w (msA (F i)) nu0 false [c0, c1] ∧ w.cell? (a.add (i * 2)) = some c0 ∧ w.cell? (a.add (i * 2 + 1)) = some c1 := by
      refine ⟨fun i => if h : i < len then Classical.choose (hex i h) else (false, []), fun i hi => ?_⟩
      simp only [dif_pos hi]
      exact Classical.choose_spec (hex i hi)
    refine ⟨len, F, some a, cap, rfl, hle, ?_, fun hn => ?_⟩
    · have := hl ((((List.range len).map D).length + ((List.range (m - len)).map fun j => D (len + j)).length) * P.bytesOf e) (by simp only [DataW.weights, ht]; exact List.mem_cons_self)
      simp only [List.length_map, List.length_range] at this
      have h3 : len ≤ (len + (m - len)) * P.bytesOf e := Nat.le_trans (Nat.le_add_right _ _) (Nat.le_mul_of_pos_right _ hB)
      unfold lim; omega
    · obtain ⟨_, _, _, h0, _⟩ := hF 0 hn
      obtain ⟨s1, s2⟩ := cell_lt h0
      obtain ⟨b, off, spot⟩ := a
      obtain rfl : spot = none := by simpa [Addr.add] using s1
      refine ⟨b, off, rfl, by simpa [Addr.add, old] using s2, fun j hj => ?_⟩
      obtain ⟨c0, c1, h1, h2, h3⟩ := hF j hj
      refine ⟨[c0, c1], ⟨rfl, h1⟩, rfl, fun i c hi => ?_⟩
      match i with
      | 0 =>
        simp only [List.getElem?_cons_zero, Option.some.injEq] at hi
        subst hi
        rw [← Go.WideShapes.add_plain, Nat.add_zero]; exact h2
      | 1 =>
        simp only [List.getElem?_cons_succ, List.getElem?_cons_zero, Option.some.injEq] at hi
        subst hi
        rw [← Go.WideShapes.add_plain]; exact h3
      | i + 2 => simp at hi
end

/-- A law's contract that asks something of its arguments. -/
theorem law_callsO {P : Program} {f : Nat} {S : Spec} (hS : FSpec P f S) {args : List AV} {W : World} {vals : Array Value} {ob : Prop} (hs : S args = some ⟨ob, .bool true, none⟩) (hob : ob) (hm : men noK (mkL args) = true) (hr : R (old W) W (mkL args) nu0 true vals.toList) :
    Calls P f vals W fun e W' => e = .returned (.bool true) ∧ Below W.heap.size W W' := by
  have := hS.2 args _ hs hob hm (old W) (old W) nu0 W vals (fun _ => rfl) hr (men_free hm) ⟨fun _ _ => False, fun k b h => by cases h⟩ (fun _ h => h) (fun _ h => h)
  refine CallsIn.calls (F := FF none) (n := 0) (CallsIn.mono (ff_calls this) ?_) (fun k d hd => by cases hd)
  rintro e W' ⟨y, Z', ν', v, μ', rs', rfl, hst, _, _, _, hr', _, _, _, rfl, _⟩
  have : y = .bool true := one1 hr'
  subst this
  exact ⟨rfl, hst.ext.os, hst.ext.tape, hst.ext.output, hst.ext.size, fun k hk => hst.ext.block k hk⟩

end Go.Proofs.Ytgminhedbeblpaa.Cal
