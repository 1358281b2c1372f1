/- What single operations come to, over abstract values: a row taken out of a slice of rows, and put back. -/
import Derived.Test.YtgminhedbeblpaaCal13
set_option linter.unusedVariables false
set_option linter.unusedSimpArgs false
namespace Go.Proofs.Ytgminhedbeblpaa.Cal
open Go

section
variable {P : Program} {K Z : Nat → Prop} {ν : Nat → Value} {w : World} {get : Operand → AV} {ev : Operand → Value} {μ : Nat → Bool} {rs : Rs} {tb : Nat → Option TI}

theorem lko_two {k1 k2 k : Nat} {b1 b2 : Option Blk} : lko [(k1, b1), (k2, b2)] k = if k = k1 then some b1 else if k = k2 then some b2 else none := by
  simp only [lko]
  by_cases h1 : k = k1
  · subst h1; simp [Nat.beq_refl]
  · have e1 : Nat.beq k k1 = false := by cases hb : Nat.beq k k1 with | false => rfl | true => exact absurd (Nat.eq_of_beq_eq_true hb) h1
    rw [e1, if_neg h1]
    by_cases h2 : k = k2
    · subst h2; simp [Nat.beq_refl]
    · have e2 : Nat.beq k k2 = false := by cases hb : Nat.beq k k2 with | false => rfl | true => exact absurd (Nat.eq_of_beq_eq_true hb) h2
      rw [e2, if_neg h2]

theorem updL_two {rs' : Rs} {k1 k2 : Nat} {b1 b2 : Option Blk} : updL rs' [(k1, b1), (k2, b2)] = fun j => if j = k1 then b1 else if j = k2 then b2 else rs' j := by
  funext j
  simp only [updL, lko_two]
  by_cases h1 : j = k1
  · rw [if_pos h1, if_pos h1]
  · rw [if_neg h1, if_neg h1]
    by_cases h2 : j = k2
    · rw [if_pos h2, if_pos h2]
    · rw [if_neg h2, if_neg h2]

theorem opsem_take {o : Oper} {t k ix : Nat} {i : TI} {a : Operand} {xss : List (List Int)} (ho : o.op = .load t a) (ht : TOK P t i) (hs : i.isStr = false) (ha : get a = .adr k 1 ix 0) (hix : ix < xss.length) (kn : Nat) :
    OpSem P o get (.own kn) [(k, .rows xss)] [(kn, some (.ints (xss.getD ix []))), (k, some (.rowsH xss ix kn))] (some kn) :=
  ⟨fun K Z ν w ev μ rs h1 hg hzk hkl hx hrd hkn => by
    have hk2 := hkn kn rfl
    obtain ⟨ra, ma⟩ := hx a (by rw [ho]; simp [Op.operands])
    rw [ha] at ra
    obtain ⟨b, f, hb, ea⟩ := ra
    have ea := one1 ea
    obtain ⟨Ft, h⟩ := hg
    obtain ⟨u1, m1, ⟨ys, G, F0, hrow, hat, hF⟩, hK, hd⟩ := h k _ (hrd (k, .rows xss) (by simp))
    obtain ⟨b', f', cap, hx', es, rfl, _, hc⟩ := row_addr hrow hix
    rw [hx'] at hb
    simp only [baseOf, Option.some.injEq, Prod.mk.injEq] at hb
    obtain ⟨rfl, rfl⟩ := hb
    have hcell : w.cell? ⟨b', f' + (ix * 1 + 0), none⟩ = some (ys ix) := hc 0 (ys ix) rfl
    obtain ⟨rrow, rone, rap, rdis⟩ := hat ix hix trivial
    have hne : k ≠ kn := by rintro rfl; rw [u1] at hk2; cases hk2
    have hload := load_leaf (P := P) ht (fun fs hk => by simp [TI.isStr, hk] at hs) hcell
    refine ⟨ys ix, w, upN ν kn (ys ix), Z, .inl ?_, Step.refl K Z w, upN_ext hk2, upN_one h1 rone, ?_, ?_, addK_new, fun b hb => hkl b (hzk b hb)⟩
    · simp only [execOp, ho, ea, Sem.run_bind, hload, Result.andThen_ok, Sem.run_pure]
    · rw [un_self hzk, updL_two]
      refine ⟨fun j => if j = kn then G ix else if j = k then (fun y => F0 y ∨ ∃ j, j < xss.length ∧ j ≠ ix ∧ G j y) else Ft j, fun j B hj => ?_⟩
      have sub1 : ∀ y, G ix y → Ft k y := fun y hy => (hF y).2 (.inr ⟨ix, hix, hy⟩)
      have sub2 : ∀ y, (F0 y ∨ ∃ j, j < xss.length ∧ j ≠ ix ∧ G j y) → Ft k y := fun y hy => (hF y).2 (hy.imp id fun ⟨j, a, _, c⟩ => ⟨j, a, c⟩)
      have apart : ∀ y, G ix y → ¬ (F0 y ∨ ∃ j, j < xss.length ∧ j ≠ ix ∧ G j y) := by
        rintro y hy (h | ⟨j, a, b, c⟩)
        · exact rap y hy h
        · exact rdis j a trivial b y hy c
      by_cases h1 : j = kn
      · subst h1
        simp only [if_pos rfl] at hj ⊢
        cases hj
        rw [upN_same]
        refine ⟨addK_new, trivial, rrow, fun y hy => hK y (sub1 y hy), fun k' b' hne' hk' y hy => ?_⟩
        rw [if_neg (Ne.symm hne')] at hk' ⊢
        split
        · exact apart y hy
        · rw [if_neg ‹_›] at hk'; exact hd k' b' (Ne.symm ‹_›) hk' y (sub1 y hy)
      · simp only [if_neg h1] at hj ⊢
        rw [upN_other h1]
        by_cases h2 : j = k
        · subst h2
          simp only [if_pos rfl] at hj ⊢
          cases hj
          refine ⟨addK_le _ u1, addK_new, ⟨ys, G, F0, hrow, fun j hj hji => ?_, upN_same.symm, fun y => Iff.rfl⟩, fun y hy => hK y (sub2 y hy), fun k' b' hne' hk' y hy => ?_⟩
          · obtain ⟨a1, a2, a3, a4⟩ := hat j hj trivial
            exact ⟨a1, a2, a3, fun i hi _ hne => a4 i hi trivial hne⟩
          · split
            · exact fun h => apart y h hy
            · rw [if_neg ‹_›, if_neg (Ne.symm hne')] at hk'
              rw [if_neg (Ne.symm hne')]
              exact hd k' b' hne' hk' y (sub2 y hy)
        · simp only [if_neg h2] at hj ⊢
          obtain ⟨g1, g2, g3, g4, g5⟩ := h j B hj
          refine ⟨addK_le _ g1, menB_le addK_le g2, sat_nu (upN_ext hk2) g2 g3, g4, fun k' b' hne' hk' y hy => ?_⟩
          split
          · exact fun h => g5 k _ h2 (hrd (k, .rows xss) (by simp)) y hy (sub1 y h)
          · rw [if_neg ‹_›] at hk'
            split
            · exact fun h => g5 k _ h2 (hrd (k, .rows xss) (by simp)) y hy (sub2 y h)
            · rw [if_neg ‹_›] at hk'
              exact g5 k' b' hne' hk' y hy
    · show [_] = [_]; rw [upN_same]⟩

theorem opsem_put {o : Oper} {t k k1 k2 ix : Nat} {i : TI} {a x : Operand} {xss : List (List Int)} {zs : List Int} (ho : o.op = .store t a x) (ht : TOK P t i) (hsz : i.size = 1) (ha : get a = .adr k 1 ix 0) (hx2 : get x = .own k2) (hix : ix < xss.length) (hne2 : Nat.beq k k2 = false) :
    OpSem P o get .any [(k, .rowsH xss ix k1), (k2, .ints zs)] [(k, some (.rows (xss.set ix zs))), (k2, none)] none :=
  ⟨fun K Z ν w ev μ rs h1 hg hzk hkl hx hrd hkn => by
    have hne2 : k ≠ k2 := by rintro rfl; rw [Nat.beq_refl] at hne2; cases hne2
    obtain ⟨ra, ma⟩ := hx a (by rw [ho]; simp [Op.operands])
    obtain ⟨rx, mx⟩ := hx x (by rw [ho]; simp [Op.operands])
    rw [ha] at ra
    rw [hx2] at rx
    obtain ⟨b, f, hb, ea⟩ := ra
    have ea := one1 ea
    have ex := one1 rx
    obtain ⟨Ft, h⟩ := hg
    have r1 := hrd (k, .rowsH xss ix k1) (by simp)
    have r2 := hrd (k2, .ints zs) (by simp)
    obtain ⟨u1, m1, ⟨ys, G, F0, hrow, hat, _, hF⟩, hK, hd⟩ := h k _ r1
    obtain ⟨u2, m2, s2, hK2, hd2⟩ := h k2 _ r2
    have hone : (ν k2).oneCell' = true := h1 k2
    obtain ⟨b', f', hb', hbF, hrun, hw⟩ := row_set (P := P) hrow hix (o := 0) (vs := [ν k2]) (by simp) (by intro v hv; simp at hv; subst hv; exact hone)
    rw [hb] at hb'
    simp only [Option.some.injEq, Prod.mk.injEq] at hb'
    obtain ⟨rfl, rfl⟩ := hb'
    obtain ⟨w1, w2, w3, w4, w5, w6⟩ := hw _ rfl
    generalize hwd : w.setRow b _ = w' at hrun w1 w2 w3 w4 w5 w6
    have hbk : Ft k b := (hF b).2 (.inl hbF)
    have hbK : ¬ K b := (hK b hbk).1
    have hzw : ∀ y, Z y → w'.heap[y]? = w.heap[y]? := fun y hy => w1 y (fun e => hbK (hzk b (e ▸ hy)))
    have hcells : (ev x).cells = #[ν k2] := by rw [ex]; exact (oneCell_of (u := .own k2) (Z := Z) (w := w) (ν := ν) h1 rfl rfl rfl).2
    refine ⟨undef, w', ν, Z, .inr ⟨sem_store ho ?_, rfl⟩, ⟨⟨w3, w4, w5, by omega, fun y hy => w1 y (fun e => hbK (e ▸ hy))⟩, fun _ h => h, fun _ h => .inl h⟩, fun _ _ => rfl, h1, ?_, ⟨_, rfl⟩, rfl, fun y hy => by rw [w2]; exact hkl y (hzk y hy)⟩
    · rw [ea]
      exact run_store ht (by rw [hcells, hsz]; rfl) _ (by rw [hcells]; exact hrun)
    · rw [un_self hzk, updL_two]
      have hold : ∀ y, y ≠ b → w'.heap[y]? = w.heap[y]? := w1
      refine ⟨fun j => if j = k then (fun y => F0 y ∨ ∃ j, j < xss.length ∧ (if j = ix then Ft k2 y else G j y)) else if j = k2 then (fun _ => False) else Ft j, fun j B hj => ?_⟩
      have sub : ∀ y, (F0 y ∨ ∃ j, j < xss.length ∧ (if j = ix then Ft k2 y else G j y)) → Ft k y ∨ Ft k2 y := by
        rintro y (h | ⟨j, a, c⟩)
        · exact .inl ((hF y).2 (.inl h))
        · split at c
          · exact .inr c
          · exact .inl ((hF y).2 (.inr ⟨j, a, ‹_›, c⟩))
      have hb2 : ¬ Ft k2 b := hd k2 _ hne2 r2 b hbk
      by_cases hjk : j = k
      · subst hjk
        simp only [if_pos rfl] at hj ⊢
        cases hj
        refine ⟨u1, trivial, ⟨fun j => if j = ix then ν k2 else ys j, fun j y => if j = ix then Ft k2 y else G j y, F0, ?_, ?_, fun y => by rw [List.length_set, if_pos trivial]⟩, fun y hy => ?_, fun k' b' hne' hk' y hy => ?_⟩
        · rw [List.length_set]
          refine row_mono (fun _ _ => rfl) (fun j es hj => ?_) w6
          rintro ⟨es0, rfl, _, e3⟩
          rw [e3]
          dsimp only
          by_cases hji : j = ix
          · rw [if_pos hji, if_pos hji]; rfl
          · rw [if_neg hji, if_neg hji]
        · intro j hj _
          rw [List.length_set] at hj
          rw [getD_set hix]
          by_cases hji : j = ix
          · subst hji
            simp only [if_pos rfl]
            refine ⟨row_mono (fun y hy => hold y (fun e => hb2 (e ▸ hy))) (fun _ _ _ h => h) s2, hone, fun y hy hf => hd k2 _ hne2 r2 y ((hF y).2 (.inl hf)) hy, fun i hi _ hij y hy => ?_⟩
            rw [if_neg hij]
            rw [List.length_set] at hi
            exact fun hgi => hd k2 _ hne2 r2 y ((hF y).2 (.inr ⟨i, hi, hij, hgi⟩)) hy
          · simp only [if_neg hji]
            obtain ⟨a1, a2, a3, a4⟩ := hat j hj hji
            refine ⟨row_mono (fun y hy => hold y (fun e => a3 y hy (e ▸ hbF))) (fun _ _ _ h => h) a1, a2, a3, fun i hi _ hij y hy => ?_⟩
            rw [List.length_set] at hi
            by_cases hii : i = ix
            · subst hii
              rw [if_pos rfl]
              exact fun hf => hd k2 _ hne2 r2 y ((hF y).2 (.inr ⟨j, hj, hji, hy⟩)) hf
            · rw [if_neg hii]; exact a4 i hi hii hij y hy
        · rcases sub y hy with h | h
          · exact ⟨(hK y h).1, by rw [w2]; exact (hK y h).2⟩
          · exact ⟨(hK2 y h).1, by rw [w2]; exact (hK2 y h).2⟩
        · rw [if_neg (Ne.symm hne')] at hk' ⊢
          split
          · exact fun h => h
          · rw [if_neg ‹_›] at hk'
            rcases sub y hy with h | h
            · exact hd k' b' hne' hk' y h
            · exact hd2 k' b' (Ne.symm ‹_›) hk' y h
      · simp only [if_neg hjk] at hj ⊢
        by_cases hj2 : j = k2
        · subst hj2; simp at hj
        · simp only [if_neg hj2] at hj ⊢
          obtain ⟨g1, g2, g3, g4, g5⟩ := h j B hj
          refine ⟨g1, g2, sat_mono (fun _ h => h) hzw (fun y hy => hold y (fun e => g5 k _ hjk r1 y hy (e ▸ hbk))) g3, fun y hy => ⟨(g4 y hy).1, by rw [w2]; exact (g4 y hy).2⟩, fun k' b' hne' hk' y hy => ?_⟩
          split
          · intro hs
            rcases sub y hs with h | h
            · exact g5 k _ hjk r1 y hy h
            · exact g5 k2 _ hj2 r2 y hy h
          · rw [if_neg ‹_›] at hk'
            split
            · exact fun h => h
            · rw [if_neg ‹_›] at hk'; exact g5 k' b' hne' hk' y hy⟩
end

end Go.Proofs.Ytgminhedbeblpaa.Cal
