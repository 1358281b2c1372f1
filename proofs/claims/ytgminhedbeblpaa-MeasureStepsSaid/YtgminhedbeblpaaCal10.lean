/- What single operations come to, over abstract values: those that make memory or write it, one by one. -/
import Derived.Test.YtgminhedbeblpaaCal9
set_option linter.unusedVariables false
set_option linter.unusedSimpArgs false
namespace Go.Proofs.Ytgminhedbeblpaa.Cal
open Go

section
variable {P : Program} {K Z : Nat → Prop} {ν : Nat → Value} {w : World} {get : Operand → AV} {ev : Operand → Value} {μ : Nat → Bool} {rs : Rs} {tb : Nat → Option TI}

theorem cells_false {u : AV} {v : Value} (h1 : ∀ k, (ν k).oneCell' = true) (hc : isC u = true) (h : R Z w u ν true [v]) : R Z w u ν false v.cells.toList := by
  cases hu : isAg u with
  | true => cases u <;> first | (cases hu; done) | (obtain ⟨es, e, r⟩ := h; obtain rfl := one1 e; exact r)
  | false => rw [(oneCell_of h1 hc hu h).2]; exact (R_leaf hu).2 h

theorem opsem_alloc {o : Oper} {t : Nat} {i : TI} (ho : o.op = .alloc t) (ht : TOK P t i) (hm : men noK i.zero = true) (kn : Nat) : OpSem P o get (.own kn) [] [(kn, some (.box i.zero))] (some kn) :=
  ⟨fun K Z ν w ev μ rs h1 hg hzk hkl hx hrd hkn => by
    obtain ⟨inf, hi1, hi2, hi3, z, hz1, hzs, _, _, hz2⟩ := ht.info
    have hk := hkn kn rfl
    refine ⟨.pointer (some ⟨w.heap.size, 0, none⟩), w.alloc (.cells z.cells t), upN ν kn (.pointer (some ⟨w.heap.size, 0, none⟩)), Z, .inl ?_, step_alloc hkl _, upN_ext hk, upN_one h1 rfl, ?_, ?_, addK_new, fun b hb => by have := hkl b (hzk b hb); simp; omega⟩
    · simp [execOp, ho, Instr.alloc, zeroValue, typeInfo, newVar, newRow, newObj, Sem.run_bind, hi1, hz1, Result.andThen, program, Sem.run]
    · rw [un_self hzk]
      exact grs_new (F := fun y => y = w.heap.size) hg hzk hkl hk (by simp) (fun y hy => alloc_old _ hy) ⟨w.heap.size, z.cells, t, rfl, alloc_new _, hz2 _ _ _, fun _ => Iff.rfl⟩ (men_free hm) (fun y hy => by subst hy; simp)
    · show [_] = [_]; rw [upN_same]⟩

theorem opsem_box {o : Oper} {t : Nat} {x : Operand} (ho : o.op = .box t x) (hc : isC (get x) = true) (kn : Nat) : OpSem P o get (.own kn) [] [(kn, some (.box (get x)))] (some kn) :=
  ⟨fun K Z ν w ev μ rs h1 hg hzk hkl hx hrd hkn => by
    have hk := hkn kn rfl
    obtain ⟨hr, hm⟩ := hx x (by rw [ho]; simp [Op.operands])
    have hs := step_alloc (Z := Z) hkl (.cells (ev x).cells t)
    refine ⟨.pointer (some ⟨w.heap.size, 0, none⟩), w.alloc (.cells (ev x).cells t), upN ν kn (.pointer (some ⟨w.heap.size, 0, none⟩)), Z, .inl ?_, hs, upN_ext hk, upN_one h1 rfl, ?_, ?_, addK_new, fun b hb => by have := hkl b (hzk b hb); simp; omega⟩
    · simp [execOp, ho, Instr.box, newVar, newRow, newObj, Sem.run_bind, Result.andThen, Sem.run]
    · rw [un_self hzk]
      exact grs_new (F := fun y => y = w.heap.size) hg hzk hkl hk (by simp) (fun y hy => alloc_old _ hy)
        ⟨w.heap.size, (ev x).cells, t, rfl, alloc_new _, R_nu (upN_ext hk) hm (R_mono (fun _ h => h) (fun b hb => alloc_old _ (hkl b (hzk b hb))) (cells_false h1 hc hr)), fun _ => Iff.rfl⟩ (men_le addK_le hm) (fun y hy => by subst hy; simp)
    · show [_] = [_]; rw [upN_same]⟩

theorem opsem_boxR {o : Oper} {t : Nat} {x : Operand} (ho : o.op = .box t x) (hc : isC (get x) = true) (hn : men noK (get x) = true) : OpSem P o get (.rop (get x)) [] [] none :=
  ⟨fun K Z ν w ev μ rs h1 hg hzk hkl hx hrd hkn => by
    obtain ⟨hr, hm⟩ := hx x (by rw [ho]; simp [Op.operands])
    have hs := step_alloc (Z := Z) hkl (.cells (ev x).cells t)
    have hZ : ∀ b, (Z b ∨ b = w.heap.size) → b < w.heap.size + 1 := fun b hb => hb.elim (fun h => by have := hkl b (hzk b h); omega) (fun h => by omega)
    refine ⟨.pointer (some ⟨w.heap.size, 0, none⟩), w.alloc (.cells (ev x).cells t), ν, fun b => Z b ∨ b = w.heap.size, .inl ?_, ⟨hs.ext, fun _ h => .inl h, fun b hb => hb.imp id (fun e hK => by have := hkl b hK; omega)⟩, fun _ _ => rfl, h1, ?_, ?_, rfl, fun b hb => by simpa using hZ b hb⟩
    · simp [execOp, ho, Instr.box, newVar, newRow, newObj, Sem.run_bind, Result.andThen, Sem.run]
    · exact hg.mono (fun _ h => .inl h) (fun b hb => alloc_old _ (hkl b (hzk b hb))) (by simp) (fun b hb => by
        rcases hb with h | h | h
        · exact .inl h
        · exact .inl (hzk b h)
        · exact .inr (by omega)) (fun b _ hb => alloc_old _ hb)
    · refine ⟨w.heap.size, 0, rfl, .inr rfl, hn, (ev x).cells.toList, R_free hn (R_mono (fun _ h => .inl h) (fun b hb => alloc_old _ (hkl b (hzk b hb))) (cells_false h1 hc hr)), fun j c hj => ?_⟩
      rw [Nat.zero_add]
      exact cell_heap (alloc_new _) (by simpa using hj)⟩

/-- make: n elements, all as the zero value. -/
theorem run_make {t e : Nat} {i ie : TI} (ht : TOK P t i) (hk : i.k = .slc e) (he : TOK P e ie) {n : Int} (h0 : 0 ≤ n) (hn : n ≤ 1000000000) (hb : ie.bytes ≤ 1000) (hsz : 0 < ie.size) (w : World) :
    ∃ x w', (Instr.makeSlice t (.int .i64 n) (.int .i64 n)).run P w = .ok x w' ∧ w'.heap.size = w.heap.size + 1 ∧ (∀ y, y < w.heap.size → w'.heap[y]? = w.heap[y]?) ∧ w'.os = w.os ∧ w'.tape = w.tape ∧ w'.output = w.output ∧ x.oneCell' = true ∧
      ∃ z : Value, (∀ Z ν w, R Z w ie.zero ν false z.cells.toList) ∧ z.cells.size = ie.size ∧ row w' x ie.size n.toNat (fun _ es => es = z.cells.toList) (fun y => y = w.heap.size) := by
  obtain ⟨inf, hi1, hi2, hi3, z, hz1, hzs, _, _, hz2⟩ := he.info
  have hti : ∀ w : World, (typeInfo e).run P w = .ok inf w := fun w => by simp [typeInfo, Sem.run_bind, hi1, Result.andThen, program, Sem.run]
  have hzv : ∀ w : World, (zeroValue e).run P w = .ok z w := fun w => by simp [zeroValue, Sem.run_bind, hti, hz1, Result.andThen, Sem.run]
  have hsize : ∀ w : World, (sizeOf e).run P w = .ok ie.size w := fun w => sizeOf_run he w
  have hw : IntKind.i64.wrap n = n := IntWalk.i64_in n (by omega)
  have hmul : (ie.bytes : Int) * n ≤ 1000 * 1000000000 := by
    have h1 : (ie.bytes : Int) ≤ 1000 := by omega
    calc (ie.bytes : Int) * n ≤ 1000 * n := Int.mul_le_mul_of_nonneg_right h1 h0
      _ ≤ 1000 * 1000000000 := by omega
  have hask : ∀ (k : Nat) (w : World), (askRoom k).run P w = .ok () w := fun k w => by
    unfold askRoom; split <;> simp [mark, Sem.run]
  let cells : Array Value := if n.toNat * ie.size = 0 then (Array.range (n.toNat * ie.size)).map ((#[] : Array Value)[· % 0]!) else (Array.range (n.toNat * ie.size)).map (z.cells[· % z.cells.size]!)
  have hcs : cells.size = n.toNat * ie.size := by simp only [cells]; split <;> simp
  refine ⟨.slice (some ⟨w.heap.size, 0, none⟩) n.toNat n.toNat, w.alloc (.cells cells e), ?_, by simp, fun y hy => alloc_old _ hy, rfl, rfl, rfl, rfl, z, fun Z ν w => hz2 Z w ν, hzs, .inr ⟨w.heap.size, 0, n.toNat, cells, e, rfl, Nat.le_refl _, by simp only [lim]; omega, alloc_new _, by omega, fun _ => Iff.rfl, fun j hj => ?_⟩⟩
  · have hc1 : ¬ n < 0 := by omega
    have hc2 : ¬ (ie.bytes : Int) * n > 281474976710656 := by omega
    by_cases h00 : n.toNat * ie.size = 0
    · have hn0 : n.toNat = 0 := by rcases Nat.mul_eq_zero.1 h00 with h | h <;> omega
      simp [Instr.makeSlice, Sem.run_bind, run_underlying (ht.slc e hk), asInt, asIntOf, hti, hw, hc1, hc2, hi3, hask, hsize, hn0, newRow, newObj, Result.andThen, Sem.run, cells]
    · simp [Instr.makeSlice, Sem.run_bind, run_underlying (ht.slc e hk), asInt, asIntOf, hti, hw, hc1, hc2, hi3, hask, hsize, h00, hzv, newRow, newObj, Result.andThen, Sem.run, cells]
  · have hpos : ¬ n.toNat * ie.size = 0 := by
      intro h; rcases Nat.mul_eq_zero.1 h with h | h <;> omega
    have hm : j * ie.size + ie.size ≤ n.toNat * ie.size := by rw [← Nat.succ_mul]; exact Nat.mul_le_mul_right _ hj
    refine ⟨_, rfl, by simpa using hzs, fun q c hq => ?_⟩
    have hqs : q < ie.size := by have := (List.getElem?_eq_some_iff.1 hq).1; simp [hzs] at this; exact this
    have hmod : (j * ie.size + q) % ie.size = q := by rw [Nat.mul_comm, Nat.mul_add_mod]; exact Nat.mod_eq_of_lt hqs
    have hq2 : z.cells[q]? = some c := by simpa using hq
    obtain ⟨hq3, hq4⟩ := Array.getElem?_eq_some_iff.1 hq2
    simp only [cells, if_neg hpos, Nat.zero_add]
    rw [Array.getElem?_map, Array.getElem?_range, if_pos (by omega)]
    simp only [Option.map_some, hzs, hmod]
    rw [getElem!_pos z.cells q (by omega), hq4]

theorem opsem_make {o : Oper} {t e : Nat} {i ie : TI} {l c : Operand} (ho : o.op = .makeSlice t l c) (ht : TOK P t i) (hk : i.k = .slc e) (he : TOK P e ie) {n : Int} (hl : get l = .int .i64 n) (hc : get c = .int .i64 n) (h0 : 0 ≤ n) (hn : n ≤ 1000000000) (hb : ie.bytes ≤ 1000) (hsz : 0 < ie.size)
    (kn : Nat) {B : Blk} (hB : ∀ (Z : Nat → Prop) (w : World) (ν : Nat → Value) (x : Value) (F : Nat → Prop) (z : Value), (∀ Z ν w, R Z w ie.zero ν false z.cells.toList) → z.cells.size = ie.size → row w x ie.size n.toNat (fun _ es => es = z.cells.toList) F → sat Z w ν x F B) (hBm : ∀ μ, menB μ B) :
    OpSem P o get (.own kn) [] [(kn, some B)] (some kn) :=
  ⟨fun K Z ν w ev μ rs h1 hg hzk hkl hx hrd hkn => by
    have hk2 := hkn kn rfl
    have e1 := (hx l (by rw [ho]; simp [Op.operands])).1
    have e2 := (hx c (by rw [ho]; simp [Op.operands])).1
    rw [hl] at e1; rw [hc] at e2
    have e1 := one1 e1
    have e2 := one1 e2
    obtain ⟨x, w', hrun, hs1, hold, a1, a2, a3, hx1, z, hz, hzs, hrow⟩ := run_make (P := P) ht hk he h0 hn hb hsz w
    refine ⟨x, w', upN ν kn x, Z, .inl ?_, ⟨⟨a1, a2, a3, by omega, fun b hb => hold b (hkl b hb)⟩, fun _ h => h, fun _ h => .inl h⟩, upN_ext hk2, upN_one h1 hx1, ?_, ?_, addK_new, fun b hb => by have := hkl b (hzk b hb); omega⟩
    · simp [execOp, ho, e1, e2, Sem.run_bind, hrun, Result.andThen, Sem.run]
    · rw [un_self hzk]
      exact grs_new (F := fun y => y = w.heap.size) hg hzk hkl hk2 (by omega) hold (hB _ _ _ _ _ z hz hzs hrow) (hBm _) (fun y hy => by subst hy; omega)
    · show [_] = [_]; rw [upN_same]⟩

theorem make_ints {ie : TI} (hz : ie.zero = .int .i64 0) (hs : ie.size = 1) {n : Nat} : ∀ (Z : Nat → Prop) (w : World) (ν : Nat → Value) (x : Value) (F : Nat → Prop) (z : Value), (∀ Z ν w, R Z w ie.zero ν false z.cells.toList) → z.cells.size = ie.size → row w x ie.size n (fun _ es => es = z.cells.toList) F → sat Z w ν x F (.ints (List.replicate n 0)) := by
  intro Z w ν x F z h1 h2 h3
  have hzl : z.cells.toList = [.int .i64 0] := by have := h1 Z ν w; rw [hz] at this; exact this
  rw [hs, hzl] at h3
  show row w x 1 (List.replicate n 0).length _ F
  rw [List.length_replicate]
  exact row_mono (fun _ _ => rfl) (fun j es hj he => by rw [he]; simp [intAt, List.getD_eq_getElem?_getD, List.getElem?_replicate, hj]) h3
theorem make_bools {ie : TI} (hz : ie.zero = .bool false) (hs : ie.size = 1) {n : Nat} : ∀ (Z : Nat → Prop) (w : World) (ν : Nat → Value) (x : Value) (F : Nat → Prop) (z : Value), (∀ Z ν w, R Z w ie.zero ν false z.cells.toList) → z.cells.size = ie.size → row w x ie.size n (fun _ es => es = z.cells.toList) F → sat Z w ν x F (.bools (List.replicate n false)) := by
  intro Z w ν x F z h1 h2 h3
  have hzl : z.cells.toList = [.bool false] := by have := h1 Z ν w; rw [hz] at this; exact this
  rw [hs, hzl] at h3
  show row w x 1 (List.replicate n false).length _ F
  rw [List.length_replicate]
  exact row_mono (fun _ _ => rfl) (fun j es hj he => by rw [he]; simp [boolAt, List.getD_eq_getElem?_getD, List.getElem?_replicate, hj]) h3
theorem make_avs {ie : TI} {n : Nat} : ∀ (Z : Nat → Prop) (w : World) (ν : Nat → Value) (x : Value) (F : Nat → Prop) (z : Value), (∀ Z ν w, R Z w ie.zero ν false z.cells.toList) → z.cells.size = ie.size → row w x ie.size n (fun _ es => es = z.cells.toList) F → sat Z w ν x F (.avs ie.size n (fun _ => ie.zero)) := by
  intro Z w ν x F z h1 h2 h3
  exact row_mono (fun _ _ => rfl) (fun j es hj he => by rw [he]; exact h1 _ _ _) h3
theorem nil_roI {Z : Nat → Prop} {w : World} {ν : Nat → Value} {m : Bool} : R Z w (.roI []) ν m [.slice none 0 0] := ⟨none, 0, rfl, Nat.le_refl _, Nat.zero_le _, fun h => absurd h (by simp)⟩
theorem make_rowsR {ie : TI} (hz : ie.zero = .cst (.slice none 0 0)) (hs : ie.size = 1) {n : Nat} : ∀ (Z : Nat → Prop) (w : World) (ν : Nat → Value) (x : Value) (F : Nat → Prop) (z : Value), (∀ Z ν w, R Z w ie.zero ν false z.cells.toList) → z.cells.size = ie.size → row w x ie.size n (fun _ es => es = z.cells.toList) F → sat Z w ν x F (.rowsR (List.replicate n [])) := by
  intro Z w ν x F z h1 h2 h3
  have hzl : z.cells.toList = [.slice none 0 0] := by have := h1 Z ν w; rw [hz] at this; exact this
  rw [hs, hzl] at h3
  show row w x 1 (List.replicate n []).length _ F
  rw [List.length_replicate]
  refine row_mono (fun _ _ => rfl) (fun j es hj he => ?_) h3
  have : (List.replicate n ([] : List Int)).getD j [] = [] := by simp [List.getD_eq_getElem?_getD, List.getElem?_replicate, hj]
  rw [this, he]
  exact nil_roI
theorem make_rows {ie : TI} (hz : ie.zero = .cst (.slice none 0 0)) (hs : ie.size = 1) {n : Nat} : ∀ (Z : Nat → Prop) (w : World) (ν : Nat → Value) (x : Value) (F : Nat → Prop) (z : Value), (∀ Z ν w, R Z w ie.zero ν false z.cells.toList) → z.cells.size = ie.size → row w x ie.size n (fun _ es => es = z.cells.toList) F → sat Z w ν x F (.rows (List.replicate n [])) := by
  intro Z w ν x F z h1 h2 h3
  have hzl : z.cells.toList = [.slice none 0 0] := by have := h1 Z ν w; rw [hz] at this; exact this
  rw [hs, hzl] at h3
  refine ⟨fun _ => .slice none 0 0, fun _ _ => False, F, ?_, fun j hj _ => ?_, fun y => ⟨fun h => .inl h, fun h => h.elim id (fun ⟨_, _, h⟩ => h.elim)⟩⟩
  · rw [List.length_replicate]; exact h3
  · have : (List.replicate n ([] : List Int)).getD j [] = [] := by rw [List.length_replicate] at hj; simp [List.getD_eq_getElem?_getD, List.getElem?_replicate, hj]
    rw [this]
    exact ⟨.inl ⟨rfl, rfl, fun _ h => h⟩, rfl, fun _ h => h.elim, fun _ _ _ _ _ h => h.elim⟩
end

end Go.Proofs.Ytgminhedbeblpaa.Cal
