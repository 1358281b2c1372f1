/- Slices that a call owns: an element written, elements appended, a part of them; 'make'. -/
import Derived.Test.YtgminhedbeblpaaCal8
import Derived.Laws.Append
import Derived.Deep.OwnRows
set_option linter.unusedVariables false
set_option linter.unusedSimpArgs false
namespace Go.Proofs.Ytgminhedbeblpaa.Cal
open Go

section
variable {P : Program} {w : World}

/-- The cells of element i are written anew. -/
theorem row_set {x : Value} {sz n : Nat} {g : Nat → List Value → Prop} {F : Nat → Prop} (h : row w x sz n g F) {i o : Nat} (hi : i < n) {vs : List Value} (ho : o + vs.length ≤ sz) (h1 : ∀ v, v ∈ vs → v.oneCell' = true) :
    ∃ b f, baseOf x = some (b, f) ∧ F b ∧ (storeCells ⟨b, f + (i * sz + o), none⟩ vs).run P w = .ok () (w.setRow b (match w.heap[b]? with | some (.cells c _ _) => (c.toList.take (f + (i * sz + o)) ++ vs ++ c.toList.drop (f + (i * sz + o) + vs.length)).toArray | _ => #[])) ∧
      ∀ w', w' = (w.setRow b (match w.heap[b]? with | some (.cells c _ _) => (c.toList.take (f + (i * sz + o)) ++ vs ++ c.toList.drop (f + (i * sz + o) + vs.length)).toArray | _ => #[])) →
        (∀ y, y ≠ b → w'.heap[y]? = w.heap[y]?) ∧ w'.heap.size = w.heap.size ∧ w'.os = w.os ∧ w'.tape = w.tape ∧ w'.output = w.output ∧
        row w' x sz n (fun j es => ∃ es0, g j es0 ∧ es0.length = sz ∧ es = if j = i then es0.take o ++ vs ++ es0.drop (o + vs.length) else es0) F := by
  rcases h with ⟨_, h0, _⟩ | ⟨b, f, cap, cells, T, hx, hc1, hc2, hh, hsz, hF, hel⟩
  · omega
  · subst hx
    have hcap : i * sz + sz ≤ cap * sz := by
      rw [← Nat.succ_mul]; exact Nat.mul_le_mul_right _ (by omega)
    have hrun := run_storeCells_at (P := P) b (f + (i * sz + o)) T vs 0 cells w hh (by omega) h1
    simp only [Nat.add_zero] at hrun
    refine ⟨b, f, rfl, (hF b).2 rfl, by rw [hh]; exact hrun, ?_⟩
    rintro w' rfl
    rw [hh]
    refine ⟨fun y hy => setRow_other w b y _ hy, by simp, rfl, rfl, rfl, ?_⟩
    have hnew := setRow_heap w b cells (cells.toList.take (f + (i * sz + o)) ++ vs ++ cells.toList.drop (f + (i * sz + o) + vs.length)).toArray T (0, 0) hh
    refine .inr ⟨b, f, cap, _, T, rfl, hc1, hc2, hnew, by simp; omega, hF, fun j hj => ?_⟩
    obtain ⟨es0, e1, e2, e3⟩ := hel j hj
    refine ⟨_, ⟨es0, e1, e2, rfl⟩, ?_, fun q c hq => ?_⟩
    · split
      · simp; omega
      · exact e2
    · simp only [List.getElem?_toArray]
      by_cases hji : j = i
      · subst hji
        rw [if_pos rfl] at hq
        by_cases hq1 : q < o
        · rw [List.append_assoc, List.getElem?_append_left (by simp; omega), List.getElem?_take, if_pos hq1] at hq
          rw [List.append_assoc, List.getElem?_append_left (by simp; omega), List.getElem?_take, if_pos (by omega)]
          have := e3 q c hq
          simpa using this
        · by_cases hq2 : q < o + vs.length
          · rw [List.append_assoc, List.getElem?_append_right (by simp; omega), List.getElem?_append_left (by simp; omega)] at hq
            rw [List.append_assoc, List.getElem?_append_right (by simp; omega), List.getElem?_append_left (by simp; omega)]
            have ea : q - (List.take o es0).length = q - o := by simp; omega
            have eb : f + (j * sz + q) - (List.take (f + (j * sz + o)) cells.toList).length = q - o := by simp; omega
            rw [ea] at hq; rw [eb]; exact hq
          · rw [List.append_assoc, List.getElem?_append_right (by simp; omega), List.getElem?_append_right (by simp; omega), List.getElem?_drop] at hq
            rw [List.append_assoc, List.getElem?_append_right (by simp; omega), List.getElem?_append_right (by simp; omega), List.getElem?_drop]
            have ea : o + vs.length + (q - (List.take o es0).length - vs.length) = q := by simp; omega
            have eb : f + (j * sz + o) + vs.length + (f + (j * sz + q) - (List.take (f + (j * sz + o)) cells.toList).length - vs.length) = f + (j * sz + q) := by simp; omega
            rw [ea] at hq; rw [eb]
            simpa using e3 q c hq
      · rw [if_neg hji] at hq
        have hqs : q < sz := by rw [← e2]; exact (List.getElem?_eq_some_iff.1 hq).1
        have := e3 q c hq
        rcases Nat.lt_or_ge j i with hlt | hge
        · have hm : j * sz + sz ≤ i * sz := by rw [← Nat.succ_mul]; exact Nat.mul_le_mul_right _ hlt
          rw [List.append_assoc, List.getElem?_append_left (by simp; omega), List.getElem?_take, if_pos (by omega)]
          simpa using this
        · have hgt : i < j := by omega
          have hm : i * sz + sz ≤ j * sz := by rw [← Nat.succ_mul]; exact Nat.mul_le_mul_right _ hgt
          rw [List.append_assoc, List.getElem?_append_right (by simp; omega), List.getElem?_append_right (by simp; omega), List.getElem?_drop]
          have eb : f + (i * sz + o) + vs.length + (f + (j * sz + q) - (List.take (f + (i * sz + o)) cells.toList).length - vs.length) = f + (j * sz + q) := by simp; omega
          rw [eb]
          simpa using this

theorem run_firstCells (sz m : Nat) (A : Option Addr) (c : Nat) (news : List Value) (hl : news.length = m * sz) (hA : ∀ ad, A = some ad → ∀ j u, news[j]? = some u → w.cell? (ad.add j) = some u) (hn : A = none → news = []) :
    (Builtin.firstCells sz m (.slice A m c)).run P w = .ok news.toArray w := by
  cases A with
  | none => simp [Builtin.firstCells, hn rfl, Sem.run]
  | some ad =>
    have := run_loadCells_list (P := P) w ad news (hA ad rfl)
    rw [hl] at this
    simpa [Builtin.firstCells] using this

/-- append: whether there is room or not. -/
theorem row_append {t e ty : Nat} {i ie : TI} (ht : TOK P t i) (hk : i.k = .slc e) (he : TOK P e ie) {x : Value} {n : Nat} {g : Nat → List Value → Prop} {F : Nat → Prop} (h : row w x ie.size n g F) (hsz : 0 < ie.size)
    {A : Option Addr} {m c : Nat} {news : List Value} (hl : news.length = m * ie.size) (hA : ∀ ad, A = some ad → ∀ j u, news[j]? = some u → w.cell? (ad.add j) = some u) (hn : A = none → news = []) (h1 : ∀ v, v ∈ news → v.oneCell' = true)
    (hlim : n + m ≤ lim) (hb : (n + m) * ie.bytes ≤ lim) (hFw : ∀ y, F y → y < w.heap.size) :
    ∃ x' w' F', (Builtin.append_ #[t, t] ty #[x, .slice A m c]).run P w = .ok x' w' ∧ row w' x' ie.size (n + m) (fun j es => if j < n then g j es else es = (news.drop ((j - n) * ie.size)).take ie.size) F' ∧
      (∀ y, ¬ F y → y < w.heap.size → w'.heap[y]? = w.heap[y]?) ∧ w.heap.size ≤ w'.heap.size ∧ w'.os = w.os ∧ w'.tape = w.tape ∧ w'.output = w.output ∧ (∀ y, F' y → (F y ∨ w.heap.size ≤ y) ∧ y < w'.heap.size) ∧ x'.oneCell' = true := by
  obtain ⟨inf, hi1, hi2, hi3, z, hz1, hzs, _, _, hz2⟩ := he.info
  have hu : (underlying t).run P w = .ok (.slice e) w := run_underlying (ht.slc e hk) w
  have hsize : (sizeOf e).run P w = .ok ie.size w := sizeOf_run he w
  have hlim' : lim = 140737488355328 := rfl
  have hf := run_firstCells (P := P) (w := w) ie.size m A c news hl hA hn
  obtain ⟨B, cap, hx⟩ := row_val h
  subst hx
  by_cases hroom : n + m ≤ cap
  · -- in place
    rcases h with ⟨hnil, hn0, hF0⟩ | ⟨b, f, cap', cells, T, hx, hc1, hc2, hh, hcs, hF, hel⟩
    · simp only [Value.slice.injEq] at hnil
      obtain ⟨rfl, rfl, rfl⟩ := hnil
      obtain rfl : m = 0 := by omega
      have hnn : news = [] := List.eq_nil_of_length_eq_zero (by simpa using hl)
      subst hnn
      refine ⟨.slice none 0 0, w, F, ?_, .inl ⟨rfl, rfl, hF0⟩, fun _ _ _ => rfl, Nat.le_refl _, rfl, rfl, rfl, fun y hy => absurd hy (hF0 y), rfl⟩
      simp [Builtin.append_, Sem.run_bind, hu, hsize, Result.andThen, Builtin.lenOf, hf, Sem.run]
    · simp only [Value.slice.injEq] at hx
      obtain ⟨rfl, _, rfl⟩ := hx
      have hmul : (n + m) * ie.size ≤ cap * ie.size := Nat.mul_le_mul_right _ hroom
      have hadd : (n + m) * ie.size = n * ie.size + m * ie.size := Nat.add_mul ..
      have hst := run_storeCells_at (P := P) b (f + n * ie.size) T news 0 cells w hh (by omega) h1
      simp only [Nat.add_zero] at hst
      have ead : (⟨b, f, none⟩ : Addr).add (n * ie.size) = ⟨b, f + n * ie.size, none⟩ := Addr.add_lit ..
      have hnew := setRow_heap w b cells (cells.toList.take (f + n * ie.size) ++ news ++ cells.toList.drop (f + n * ie.size + news.length)).toArray T (0, 0) hh
      refine ⟨.slice (some ⟨b, f, none⟩) (n + m) cap, _, F, ?_, .inr ⟨b, f, cap, _, T, rfl, hroom, by omega, hnew, by simp; omega, hF, fun j hj => ?_⟩, fun y hy _ => setRow_other w b y _ (fun e => hy ((hF y).2 e)), by simp, rfl, rfl, rfl, fun y hy => ⟨.inl hy, by simp; exact hFw y hy⟩, rfl⟩
      · simp [Builtin.append_, Sem.run_bind, hu, hsize, Result.andThen, Builtin.lenOf, hf, hroom, ead, hst, Sem.run]
      · by_cases hjn : j < n
        · obtain ⟨es, e1, e2, e3⟩ := hel j hjn
          have hm : j * ie.size + ie.size ≤ n * ie.size := by rw [← Nat.succ_mul]; exact Nat.mul_le_mul_right _ hjn
          refine ⟨es, by dsimp only; rw [if_pos hjn]; exact e1, e2, fun q v hq => ?_⟩
          have hqs : q < ie.size := by rw [← e2]; exact (List.getElem?_eq_some_iff.1 hq).1
          simp only [List.getElem?_toArray]
          rw [List.append_assoc, List.getElem?_append_left (by simp; omega), List.getElem?_take, if_pos (by omega)]
          simpa using e3 q v hq
        · have hm : (j - n) * ie.size + ie.size ≤ m * ie.size := by rw [← Nat.succ_mul]; exact Nat.mul_le_mul_right _ (by omega)
          have hj2 : j * ie.size = n * ie.size + (j - n) * ie.size := by rw [← Nat.add_mul]; congr 1; omega
          refine ⟨_, by dsimp only; rw [if_neg hjn], by simp; omega, fun q v hq => ?_⟩
          have hqs : q < ie.size := by have := (List.getElem?_eq_some_iff.1 hq).1; simp at this; omega
          rw [List.getElem?_take, if_pos hqs, List.getElem?_drop] at hq
          simp only [List.getElem?_toArray]
          rw [List.append_assoc, List.getElem?_append_right (by simp; omega), List.getElem?_append_left (by simp; omega)]
          rw [show f + (j * ie.size + q) - (List.take (f + n * ie.size) cells.toList).length = (j - n) * ie.size + q from by simp; omega]
          exact hq
  · -- a new block
    have hold : ∃ old : List Value, old.length = n * ie.size ∧ (Builtin.firstCells ie.size n (.slice B n cap)).run P w.drew = .ok old.toArray w.drew ∧ ∀ j, j < n → ∃ es, g j es ∧ es.length = ie.size ∧ ∀ (q : Nat) v, es[q]? = some v → old[j * ie.size + q]? = some v := by
      rcases h with ⟨hnil, hn0, hF0⟩ | ⟨b, f, cap', cells, T, hx, hc1, hc2, hh, hcs, hF, hel⟩
      · simp only [Value.slice.injEq] at hnil
        obtain ⟨rfl, rfl, rfl⟩ := hnil
        exact ⟨[], by simp, by simp [Builtin.firstCells, Sem.run], fun j hj => by omega⟩
      · simp only [Value.slice.injEq] at hx
        obtain ⟨rfl, _, rfl⟩ := hx
        have hmul : n * ie.size ≤ cap * ie.size := Nat.mul_le_mul_right _ hc1
        refine ⟨(cells.toList.drop f).take (n * ie.size), by simp; omega, ?_, fun j hj => ?_⟩
        · refine run_firstCells ie.size n _ cap _ (by simp; omega) (fun ad had j u hu => ?_) (by simp)
          simp only [Option.some.injEq] at had
          subst had
          have hjl : j < n * ie.size := by have := (List.getElem?_eq_some_iff.1 hu).1; simp at this; omega
          rw [List.getElem?_take, if_pos hjl, List.getElem?_drop] at hu
          rw [Addr.add_lit, World.cell?_drew]
          exact cell_heap hh (by simpa using hu)
        · obtain ⟨es, e1, e2, e3⟩ := hel j hj
          have hm : j * ie.size + ie.size ≤ n * ie.size := by rw [← Nat.succ_mul]; exact Nat.mul_le_mul_right _ hj
          refine ⟨es, e1, e2, fun q v hq => ?_⟩
          have hqs : q < ie.size := by rw [← e2]; exact (List.getElem?_eq_some_iff.1 hq).1
          rw [List.getElem?_take, if_pos (by omega), List.getElem?_drop]
          simpa using e3 q v hq
    obtain ⟨old, ho1, ho2, ho3⟩ := hold
    have hf2 : (Builtin.firstCells ie.size m (.slice A m c)).run P w.drew = .ok news.toArray w.drew := run_firstCells (w := w.drew) ie.size m A c news hl (fun ad had j u hu => by rw [World.cell?_drew]; exact hA ad had j u hu) hn
    have hcapn : cap < n + m := by omega
    have hfit := growslice_fits (bytes := ie.bytes) hcapn (by omega)
    have hneed : ¬ ((n + m : Nat) : Int) > IntKind.i64.max := by
      have : IntKind.i64.max = 9223372036854775807 := by decide
      rw [this]; omega
    have hti : ∀ w : World, (typeInfo e).run P w = .ok inf w := fun w => by simp [typeInfo, Sem.run_bind, hi1, Result.andThen, program, Sem.run]
    have hzv : ∀ w : World, (zeroValue e).run P w = .ok z w := fun w => by simp [zeroValue, Sem.run_bind, hti, hz1, Result.andThen, Sem.run]
    let nc := grownCap w (n + m) cap e
    have hnc : n + m ≤ nc := grownCap_ge w _ _ _
    have hz : z.cells.size = ie.size := hzs
    let rest := Builtin.zeroCells z.cells (nc - (n + m))
    have hrest : rest.size = (nc - (n + m)) * ie.size := by simp [rest, Builtin.zeroCells, hz]
    refine ⟨.slice (some ⟨w.heap.size, 0, none⟩) (n + m) nc, w.drew.alloc (.cells (old.toArray ++ news.toArray ++ rest) e), fun y => y = w.heap.size, ?_, .inr ⟨w.heap.size, 0, nc, _, e, rfl, hnc, by omega, alloc_new (w := w.drew) _, ?_, fun _ => Iff.rfl, fun j hj => ?_⟩,
      fun y _ hy => alloc_old (w := w.drew) _ hy, by simp, rfl, rfl, rfl, fun y hy => by subst hy; exact ⟨.inr (Nat.le_refl _), by simp⟩, rfl⟩
    · have hdrew : ∀ q : Question, (choose q).run P w = if q.forced then .ok 0 w else .ok (q.cut (w.tape w.drawn q)) w.drew := fun q => rfl
      have hch : (choose (.appendCap (n + m) cap e)).run P w = .ok nc w.drew := rfl
      have hask : ∀ (k : Nat) (w : World), (askRoom k).run P w = .ok () w := fun k w => by
        unfold askRoom; split <;> simp [mark, Sem.run]
      simp only [Builtin.append_, Sem.run_bind, Sem.run_pure, hu, hsize, Result.andThen_ok, List.getElem?_toArray, List.getElem?_cons_zero, List.getElem?_cons_succ, Builtin.lenOf]
      have hzf : (match (TypeDesc.slice e : TypeDesc) with | .int _ => true | _ => false) = false := rfl
      simp only [hu, Result.andThen_ok, Bool.false_eq_true, if_false, Sem.run_bind, Sem.run_pure, Builtin.lenOf, hroom]
      have hn1 : ¬ (9223372036854775807 : Int) < (n : Int) + (m : Int) := by omega
      have hfit' : ¬ 281474976710656 < Builtin.nextslicecap (n + m) cap * ie.bytes := by omega
      have hfo : (Question.appendCap (n + m) cap e).forced = false := rfl
      simp [hn1, hfit', hfo, hti, hi3, hch, hask, ho2, hf2, hzv, Sem.run_bind, Result.andThen, Sem.run, newRow, newObj, rest, hroom]
      refine ⟨rfl, ?_⟩
      have e1 : (Question.appendCap (n + m) cap e).cut (w.tape w.drawn (Question.appendCap (n + m) cap e)) = nc := rfl
      rw [e1]
      have e2 : old.toArray ++ (news.toArray ++ Builtin.zeroCells z.cells (nc - (n + m))) = (old ++ news).toArray ++ Builtin.zeroCells z.cells (nc - (n + m)) := by apply Array.ext'; simp
      rw [e2]
      rfl
    · simp [ho1, hl, hrest]
      have : nc = (n + m) + (nc - (n + m)) := by omega
      rw [this, Nat.add_mul, Nat.add_mul]
      simp
    · by_cases hjn : j < n
      · obtain ⟨es, e1, e2, e3⟩ := ho3 j hjn
        refine ⟨es, by dsimp only; rw [if_pos hjn]; exact e1, e2, fun q v hq => ?_⟩
        have := e3 q v hq
        have hlt := (List.getElem?_eq_some_iff.1 this).1
        simp only [Nat.zero_add]
        rw [Array.getElem?_append_left (by simp; omega), Array.getElem?_append_left (by simpa using hlt)]
        simpa using this
      · have hm : (j - n) * ie.size + ie.size ≤ m * ie.size := by rw [← Nat.succ_mul]; exact Nat.mul_le_mul_right _ (by omega)
        have hj2 : j * ie.size = n * ie.size + (j - n) * ie.size := by rw [← Nat.add_mul]; congr 1; omega
        refine ⟨_, by dsimp only; rw [if_neg hjn], by simp; omega, fun q v hq => ?_⟩
        have hqs : q < ie.size := by have := (List.getElem?_eq_some_iff.1 hq).1; simp at this; omega
        rw [List.getElem?_take, if_pos hqs, List.getElem?_drop] at hq
        simp only [Nat.zero_add]
        rw [Array.getElem?_append_left (by simp; omega), Array.getElem?_append_right (by simp; omega)]
        rw [show j * ie.size + q - old.toArray.size = (j - n) * ie.size + q from by simp; omega]
        simpa using hq
end

end Go.Proofs.Ytgminhedbeblpaa.Cal
