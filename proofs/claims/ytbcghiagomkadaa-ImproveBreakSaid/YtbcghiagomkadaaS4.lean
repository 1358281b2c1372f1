/- Own texts of the proof, merged, in order. -/
import Derived.Test.YtbcghiagomkadaaS3
set_option linter.unusedVariables false
set_option linter.unusedSimpArgs false
namespace Go.Proofs.Ytbcghiagomkadaa.Cal
open Go
section
variable {P : Program} {K Z : Nat → Prop} {ν : Nat → Value} {w : World} {get : Operand → AV} {ev : Operand → Value} {μ : Nat → Bool} {rs : Rs} {tb : Nat → Option TI}
theorem cells_false {u : AV} {v : Value} (h1 : ∀ k, (ν k).oneCell' = true) (hc : isC u = true) (h : R Z w u ν true [v]) : R Z w u ν false v.cells.toList := by
  cases hu : isAg u with
  | true => cases u <;> first | (cases hu; done) | (obtain ⟨es, e, r⟩ := h; obtain rfl := one1 e; exact r)
  | false => rw [(Zc8 h1 hc hu h).2]; exact (Zhl hu).2 h
theorem opsem_alloc {o : Oper} {t : Nat} {i : TI} (ho : o.op = .alloc t) (ht : TOK P t i) (hm : men noK i.zero = true) (kn : Nat) : OpSem P o get (.own kn) [] [(kn, some (.box i.zero))] (some kn) :=
  ⟨fun K Z ν w ev μ rs h1 hg hzk hkl hx hrd hkn => by
    obtain ⟨inf, hi1, hi2, hi3, z, hz1, hzs, _, _, hz2⟩ := ht.info
    have hk := hkn kn rfl
    refine ⟨.pointer (some ⟨w.heap.size, 0, none⟩), w.alloc (.cells z.cells t), upN ν kn (.pointer (some ⟨w.heap.size, 0, none⟩)), Z, .inl ?_, Zcq hkl _, Zb0 hk, Zcs h1 rfl, ?_, ?_, Zbx, fun b hb => by have := hkl b (hzk b hb); simp; omega⟩
    · simp [execOp, ho, Instr.alloc, zeroValue, typeInfo, newVar, newRow, newObj, Sem.run_bind, hi1, hz1, Result.andThen, program, Sem.run]
    · rw [Zbq hzk]
      exact Zea (F := fun y => y = w.heap.size) hg hzk hkl hk (by simp) (fun y hy => Zbw _ hy) ⟨w.heap.size, z.cells, t, rfl, Zck _, hz2 _ _ _, fun _ => Iff.rfl⟩ (Zbr hm) (fun y hy => by subst hy; simp)
    · show [_] = [_]; rw [upN_same]⟩
theorem opsem_box {o : Oper} {t : Nat} {x : Operand} (ho : o.op = .box t x) (hc : isC (get x) = true) (kn : Nat) : OpSem P o get (.own kn) [] [(kn, some (.box (get x)))] (some kn) :=
  ⟨fun K Z ν w ev μ rs h1 hg hzk hkl hx hrd hkn => by
    have hk := hkn kn rfl
    obtain ⟨hr, hm⟩ := hx x (by rw [ho]; simp [Op.operands])
    have hs := Zcq (Z := Z) hkl (.cells (ev x).cells t)
    refine ⟨.pointer (some ⟨w.heap.size, 0, none⟩), w.alloc (.cells (ev x).cells t), upN ν kn (.pointer (some ⟨w.heap.size, 0, none⟩)), Z, .inl ?_, hs, Zb0 hk, Zcs h1 rfl, ?_, ?_, Zbx, fun b hb => by have := hkl b (hzk b hb); simp; omega⟩
    · simp [execOp, ho, Instr.box, newVar, newRow, newObj, Sem.run_bind, Result.andThen, Sem.run]
    · rw [Zbq hzk]
      exact Zea (F := fun y => y = w.heap.size) hg hzk hkl hk (by simp) (fun y hy => Zbw _ hy)
        ⟨w.heap.size, (ev x).cells, t, rfl, Zck _, R_nu (Zb0 hk) hm (Zbk (fun _ h => h) (fun b hb => Zbw _ (hkl b (hzk b hb))) (cells_false h1 hc hr)), fun _ => Iff.rfl⟩ (Zc2 Zby hm) (fun y hy => by subst hy; simp)
    · show [_] = [_]; rw [upN_same]⟩
theorem opsem_boxR {o : Oper} {t : Nat} {x : Operand} (ho : o.op = .box t x) (hc : isC (get x) = true) (hn : men noK (get x) = true) : OpSem P o get (.rop (get x)) [] [] none :=
  ⟨fun K Z ν w ev μ rs h1 hg hzk hkl hx hrd hkn => by
    obtain ⟨hr, hm⟩ := hx x (by rw [ho]; simp [Op.operands])
    have hs := Zcq (Z := Z) hkl (.cells (ev x).cells t)
    have hZ : ∀ b, (Z b ∨ b = w.heap.size) → b < w.heap.size + 1 := fun b hb => hb.elim (fun h => by have := hkl b (hzk b h); omega) (fun h => by omega)
    refine ⟨.pointer (some ⟨w.heap.size, 0, none⟩), w.alloc (.cells (ev x).cells t), ν, fun b => Z b ∨ b = w.heap.size, .inl ?_, ⟨hs.ext, fun _ h => .inl h, fun b hb => hb.imp id (fun e hK => by have := hkl b hK; omega)⟩, fun _ _ => rfl, h1, ?_, ?_, rfl, fun b hb => by simpa using hZ b hb⟩
    · simp [execOp, ho, Instr.box, newVar, newRow, newObj, Sem.run_bind, Result.andThen, Sem.run]
    · exact hg.mono (fun _ h => .inl h) (fun b hb => Zbw _ (hkl b (hzk b hb))) (by simp) (fun b hb => by
        rcases hb with h | h | h
        · exact .inl h
        · exact .inl (hzk b h)
        · exact .inr (by omega)) (fun b _ hb => Zbw _ hb)
    · refine ⟨w.heap.size, 0, rfl, .inr rfl, hn, (ev x).cells.toList, Zcl hn (Zbk (fun _ h => .inl h) (fun b hb => Zbw _ (hkl b (hzk b hb))) (cells_false h1 hc hr)), fun j c hj => ?_⟩
      rw [Nat.zero_add]
      exact Zcx (Zck _) (by simpa using hj)⟩
/-- make: n elements, all as the zero value. -/
theorem run_make {t e : Nat} {i ie : TI} (ht : TOK P t i) (hk : i.k = .slc e) (he : TOK P e ie) {n : Int} (h0 : 0 ≤ n) (hn : n ≤ 1000000000) (hb : ie.bytes ≤ 1000) (hsz : 0 < ie.size) (w : World) :
    ∃ x w', (Instr.makeSlice t (.int .i64 n) (.int .i64 n)).run P w = .ok x w' ∧ w'.heap.size = w.heap.size + 1 ∧ (∀ y, y < w.heap.size → w'.heap[y]? = w.heap[y]?) ∧ w'.os = w.os ∧ w'.tape = w.tape ∧ w'.output = w.output ∧ x.oneCell' = true ∧
      ∃ z : Value, (∀ Z ν w, R Z w ie.zero ν false z.cells.toList) ∧ z.cells.size = ie.size ∧ row w' x ie.size n.toNat (fun _ es => es = z.cells.toList) (fun y => y = w.heap.size) := by
  obtain ⟨inf, hi1, hi2, hi3, z, hz1, hzs, _, _, hz2⟩ := he.info
  have hti : ∀ w : World, (typeInfo e).run P w = .ok inf w := fun w => by simp [typeInfo, Sem.run_bind, hi1, Result.andThen, program, Sem.run]
  have hzv : ∀ w : World, (zeroValue e).run P w = .ok z w := fun w => by simp [zeroValue, Sem.run_bind, hti, hz1, Result.andThen, Sem.run]
  have hsize : ∀ w : World, (sizeOf e).run P w = .ok ie.size w := fun w => Zb2 he w
  have hw : IntKind.i64.wrap n = n := IntWalk.i64_in n (by omega)
  have hmul : (ie.bytes : Int) * n ≤ 1000 * 1000000000 := by
    have h1 : (ie.bytes : Int) ≤ 1000 := by omega
    calc (ie.bytes : Int) * n ≤ 1000 * n := Int.mul_le_mul_of_nonneg_right h1 h0
      _ ≤ 1000 * 1000000000 := by omega
  have hask : ∀ (k : Nat) (w : World), (askRoom k).run P w = .ok () w := fun k w => by
    unfold askRoom; split <;> simp [mark, Sem.run]
  let cells : Array Value := if n.toNat * ie.size = 0 then (Array.range (n.toNat * ie.size)).map ((#[] : Array Value)[· % 0]!) else (Array.range (n.toNat * ie.size)).map (z.cells[· % z.cells.size]!)
  have hcs : cells.size = n.toNat * ie.size := by simp only [cells]; split <;> simp
  refine ⟨.slice (some ⟨w.heap.size, 0, none⟩) n.toNat n.toNat, w.alloc (.cells cells e), ?_, by simp, fun y hy => Zbw _ hy, rfl, rfl, rfl, rfl, z, fun Z ν w => hz2 Z w ν, hzs, .inr ⟨w.heap.size, 0, n.toNat, cells, e, rfl, Nat.le_refl _, by simp only [lim]; omega, Zck _, by omega, fun _ => Iff.rfl, fun j hj => ?_⟩⟩
  · have hc1 : ¬ n < 0 := by omega
    have hc2 : ¬ (ie.bytes : Int) * n > 281474976710656 := by omega
    by_cases h00 : n.toNat * ie.size = 0
    · have hn0 : n.toNat = 0 := by rcases Nat.mul_eq_zero.1 h00 with h | h <;> omega
      simp [Instr.makeSlice, Sem.run_bind, run_underlying (ht.slc e hk), asInt, asIntOf, hti, hw, hc1, hc2, hi3, hask, hsize, hn0, newRow, newObj, Result.andThen, Sem.run, cells]
    · simp [Instr.makeSlice, Sem.run_bind, run_underlying (ht.slc e hk), asInt, asIntOf, hti, hw, hc1, hc2, hi3, hask, hsize, h00, hzv, newRow, newObj, Result.andThen, Sem.run, cells]
  · have hpos : ¬ n.toNat * ie.size = 0 := by
      intro h; rcases Nat.mul_eq_zero.1 h with h | h <;> omega
    have hm : j * ie.size + ie.size ≤ n.toNat * ie.size := by rw [← Nat.succ_mul]; exact Nat.mul_le_mul_right _ hj
    refine ⟨_, rfl, by simpa using hzs, fun q c hq => ?_⟩
    have hqs : q < ie.size := by have := (List.getElem?_eq_some_iff.1 hq).1; simp [hzs] at this; exact this
    have hmod : (j * ie.size + q) % ie.size = q := by rw [Nat.mul_comm, Nat.mul_add_mod]; exact Nat.mod_eq_of_lt hqs
    have hq2 : z.cells[q]? = some c := by simpa using hq
    obtain ⟨hq3, hq4⟩ := Array.getElem?_eq_some_iff.1 hq2
    simp only [cells, if_neg hpos, Nat.zero_add]
    rw [Array.getElem?_map, Array.getElem?_range, if_pos (by omega)]
    simp only [Option.map_some, hzs, hmod]
    rw [getElem!_pos z.cells q (by omega), hq4]
theorem opsem_make {o : Oper} {t e : Nat} {i ie : TI} {l c : Operand} (ho : o.op = .makeSlice t l c) (ht : TOK P t i) (hk : i.k = .slc e) (he : TOK P e ie) {n : Int} (hl : get l = .int .i64 n) (hc : get c = .int .i64 n) (h0 : 0 ≤ n) (hn : n ≤ 1000000000) (hb : ie.bytes ≤ 1000) (hsz : 0 < ie.size)
    (kn : Nat) {B : Blk} (hB : ∀ (Z : Nat → Prop) (w : World) (ν : Nat → Value) (x : Value) (F : Nat → Prop) (z : Value), (∀ Z ν w, R Z w ie.zero ν false z.cells.toList) → z.cells.size = ie.size → row w x ie.size n.toNat (fun _ es => es = z.cells.toList) F → sat Z w ν x F B) (hBm : ∀ μ, menB μ B) :
    OpSem P o get (.own kn) [] [(kn, some B)] (some kn) :=
  ⟨fun K Z ν w ev μ rs h1 hg hzk hkl hx hrd hkn => by
    have hk2 := hkn kn rfl
    have e1 := (hx l (by rw [ho]; simp [Op.operands])).1
    have e2 := (hx c (by rw [ho]; simp [Op.operands])).1
    rw [hl] at e1; rw [hc] at e2
    have e1 := one1 e1
    have e2 := one1 e2
    obtain ⟨x, w', hrun, hs1, hold, a1, a2, a3, hx1, z, hz, hzs, hrow⟩ := run_make (P := P) ht hk he h0 hn hb hsz w
    refine ⟨x, w', upN ν kn x, Z, .inl ?_, ⟨⟨a1, a2, a3, by omega, fun b hb => hold b (hkl b hb)⟩, fun _ h => h, fun _ h => .inl h⟩, Zb0 hk2, Zcs h1 hx1, ?_, ?_, Zbx, fun b hb => by have := hkl b (hzk b hb); omega⟩
    · simp [execOp, ho, e1, e2, Sem.run_bind, hrun, Result.andThen, Sem.run]
    · rw [Zbq hzk]
      exact Zea (F := fun y => y = w.heap.size) hg hzk hkl hk2 (by omega) hold (hB _ _ _ _ _ z hz hzs hrow) (hBm _) (fun y hy => by subst hy; omega)
    · show [_] = [_]; rw [upN_same]⟩
theorem make_ints {ie : TI} (hz : ie.zero = .int .i64 0) (hs : ie.size = 1) {n : Nat} : ∀ (Z : Nat → Prop) (w : World) (ν : Nat → Value) (x : Value) (F : Nat → Prop) (z : Value), (∀ Z ν w, R Z w ie.zero ν false z.cells.toList) → z.cells.size = ie.size → row w x ie.size n (fun _ es => es = z.cells.toList) F → sat Z w ν x F (.ints (List.replicate n 0)) := by
  intro Z w ν x F z h1 h2 h3
  have hzl : z.cells.toList = [.int .i64 0] := by have := h1 Z ν w; rw [hz] at this; exact this
  rw [hs, hzl] at h3
  show row w x 1 (List.replicate n 0).length _ F
  rw [List.length_replicate]
  exact Za8 (fun _ _ => rfl) (fun j es hj he => by rw [he]; simp [intAt, List.getD_eq_getElem?_getD, List.getElem?_replicate, hj]) h3
theorem make_bools {ie : TI} (hz : ie.zero = .bool false) (hs : ie.size = 1) {n : Nat} : ∀ (Z : Nat → Prop) (w : World) (ν : Nat → Value) (x : Value) (F : Nat → Prop) (z : Value), (∀ Z ν w, R Z w ie.zero ν false z.cells.toList) → z.cells.size = ie.size → row w x ie.size n (fun _ es => es = z.cells.toList) F → sat Z w ν x F (.bools (List.replicate n false)) := by
  intro Z w ν x F z h1 h2 h3
  have hzl : z.cells.toList = [.bool false] := by have := h1 Z ν w; rw [hz] at this; exact this
  rw [hs, hzl] at h3
  show row w x 1 (List.replicate n false).length _ F
  rw [List.length_replicate]
  exact Za8 (fun _ _ => rfl) (fun j es hj he => by rw [he]; simp [boolAt, List.getD_eq_getElem?_getD, List.getElem?_replicate, hj]) h3
theorem make_avs {ie : TI} {n : Nat} : ∀ (Z : Nat → Prop) (w : World) (ν : Nat → Value) (x : Value) (F : Nat → Prop) (z : Value), (∀ Z ν w, R Z w ie.zero ν false z.cells.toList) → z.cells.size = ie.size → row w x ie.size n (fun _ es => es = z.cells.toList) F → sat Z w ν x F (.avs ie.size n (fun _ => ie.zero)) := by
  intro Z w ν x F z h1 h2 h3
  exact Za8 (fun _ _ => rfl) (fun j es hj he => by rw [he]; exact h1 _ _ _) h3
theorem Zg6 {Z : Nat → Prop} {w : World} {ν : Nat → Value} {m : Bool} : R Z w (.roI []) ν m [.slice none 0 0] := ⟨none, 0, rfl, Nat.le_refl _, Nat.zero_le _, fun h => absurd h (by simp)⟩
theorem make_rowsR {ie : TI} (hz : ie.zero = .cst (.slice none 0 0)) (hs : ie.size = 1) {n : Nat} : ∀ (Z : Nat → Prop) (w : World) (ν : Nat → Value) (x : Value) (F : Nat → Prop) (z : Value), (∀ Z ν w, R Z w ie.zero ν false z.cells.toList) → z.cells.size = ie.size → row w x ie.size n (fun _ es => es = z.cells.toList) F → sat Z w ν x F (.rowsR (List.replicate n [])) := by
  intro Z w ν x F z h1 h2 h3
  have hzl : z.cells.toList = [.slice none 0 0] := by have := h1 Z ν w; rw [hz] at this; exact this
  rw [hs, hzl] at h3
  show row w x 1 (List.replicate n []).length _ F
  rw [List.length_replicate]
  refine Za8 (fun _ _ => rfl) (fun j es hj he => ?_) h3
  have : (List.replicate n ([] : List Int)).getD j [] = [] := by simp [List.getD_eq_getElem?_getD, List.getElem?_replicate, hj]
  rw [this, he]
  exact Zg6
theorem make_rows {ie : TI} (hz : ie.zero = .cst (.slice none 0 0)) (hs : ie.size = 1) {n : Nat} : ∀ (Z : Nat → Prop) (w : World) (ν : Nat → Value) (x : Value) (F : Nat → Prop) (z : Value), (∀ Z ν w, R Z w ie.zero ν false z.cells.toList) → z.cells.size = ie.size → row w x ie.size n (fun _ es => es = z.cells.toList) F → sat Z w ν x F (.rows (List.replicate n [])) := by
  intro Z w ν x F z h1 h2 h3
  have hzl : z.cells.toList = [.slice none 0 0] := by have := h1 Z ν w; rw [hz] at this; exact this
  rw [hs, hzl] at h3
  refine ⟨fun _ => .slice none 0 0, fun _ _ => False, F, ?_, fun j hj _ => ?_, fun y => ⟨fun h => .inl h, fun h => h.elim id (fun ⟨_, _, h⟩ => h.elim)⟩⟩
  · rw [List.length_replicate]; exact h3
  · have : (List.replicate n ([] : List Int)).getD j [] = [] := by rw [List.length_replicate] at hj; simp [List.getD_eq_getElem?_getD, List.getElem?_replicate, hj]
    rw [this]
    exact ⟨.inl ⟨rfl, rfl, fun _ h => h⟩, rfl, fun _ h => h.elim, fun _ _ _ _ _ h => h.elim⟩
end
end Go.Proofs.Ytbcghiagomkadaa.Cal
namespace Go.Proofs.Ytbcghiagomkadaa.Cal
open Go
section
variable {P : Program} {K Z : Nat → Prop} {ν : Nat → Value} {w : World} {get : Operand → AV} {ev : Operand → Value} {μ : Nat → Bool} {rs : Rs} {tb : Nat → Option TI}
theorem Zds {rs : Rs} {k : Nat} {b : Blk} : updL rs [(k, some b), (k, none)] = updL rs [(k, some b)] := by
  funext j
  simp only [updL, lko]
  cases Nat.beq j k <;> rfl
theorem cellsV {u : AV} {v : Value} (h1 : ∀ k, (ν k).oneCell' = true) (hc : isC u = true) (h : R Z w u ν true [v]) (hag : isAg u = true → ∀ y, y ∈ v.cells.toList → y.oneCell' = true) : ∀ y, y ∈ v.cells.toList → y.oneCell' = true := by
  intro y hy
  cases hu : isAg u with
  | true => exact hag hu y hy
  | false =>
    obtain ⟨h2, h3⟩ := Zc8 h1 hc hu h
    rw [h3] at hy
    simp at hy
    rw [hy]; exact h2
/-- A struct's cells are cells. -/
def isCL : AV → Bool
  | .cons h t => isC h && !isAg h && isCL t
  | .nil => true
  | _ => false
def isCC (u : AV) : Bool := match u with | .agg l => isCL l | u => isC u
theorem oneL (h1 : ∀ k, (ν k).oneCell' = true) : ∀ {l : AV} {cs : List Value}, isCL l = true → R Z w l ν true cs → ∀ y, y ∈ cs → y.oneCell' = true := by
  intro l
  induction l with
  | cons a t _ ih =>
    intro cs hc hr y hy
    simp only [isCL, Bool.and_eq_true, Bool.not_eq_true'] at hc
    obtain ⟨v, vs, rfl, r1, r2⟩ := hr
    rcases List.mem_cons.1 hy with rfl | hy
    · exact (Zc8 h1 hc.1.1 hc.1.2 r1).1
    · exact ih hc.2 r2 y hy
  | nil => intro cs _ hr y hy; rw [show cs = [] from hr] at hy; cases hy
  | _ => intro cs hc; cases hc
theorem Zfu {u : AV} (h : isCC u = true) : isC u = true := by cases u <;> first | rfl | exact h
theorem oneCC {u : AV} {v : Value} (h1 : ∀ k, (ν k).oneCell' = true) (hc : isCC u = true) (h : R Z w u ν true [v]) : ∀ y, y ∈ v.cells.toList → y.oneCell' = true :=
  cellsV h1 (Zfu hc) h fun ha y hy => by
    cases u <;> first | (cases ha; done) | skip
    obtain ⟨es, e, r⟩ := h
    obtain rfl := one1 e
    exact oneL h1 hc r y (by simpa [Value.cells] using hy)
theorem Zff {t : Nat} {i : TI} (ht : TOK P t i) {v : Value} (hl : v.cells.size = i.size) (a : Addr) {w' : World} (h : (storeCells a v.cells.toList).run P w = .ok () w') : (Instr.storeAt t (.pointer (some a)) v).run P w = .ok () w' := by
  simp [Instr.storeAt, Instr.sureAddr, storeVar, Sem.run_bind, Zb2 ht, hl, Result.andThen, Sem.run, h]
theorem Zfc {o : Oper} {t : Nat} {a x : Operand} (ho : o.op = .store t a x) {w' : World} (h : (Instr.storeAt t (ev a) (ev x)).run P w = .ok () w') : (execOp ev o).run P w = .ok .skip w' := by
  simp [execOp, ho, Sem.run_bind, h, Result.andThen, Sem.run]
/-- A store into an element of a slice of the call's own. -/
theorem Zcd {o : Oper} {t k sz ix off n : Nat} {i : TI} {a x : Operand} (ho : o.op = .store t a x) (ht : TOK P t i) (ha : get a = .adr k sz ix off) (hc : isCC (get x) = true) (hp : properL (cellsL (get x)) = true) (hlen : lenL (cellsL (get x)) = i.size) (hoff : off + i.size ≤ sz) (hix : ix < n)
    {B B' : Blk} (g : (Nat → Prop) → World → (Nat → Value) → Nat → List Value → Prop) (hs : ∀ Z w ν y F, sat Z w ν y F B → row w y sz n (g Z w ν) F)
    (hs' : ∀ (Z : Nat → Prop) (w w' : World) ν y F vs, (∀ b, Z b → w'.heap[b]? = w.heap[b]?) → vs.length = i.size → R Z w' (cellsL (get x)) ν true vs → row w' y sz n (fun j es => ∃ es0, g Z w ν j es0 ∧ es0.length = sz ∧ es = if j = ix then es0.take off ++ vs ++ es0.drop (off + vs.length) else es0) F → sat Z w' ν y F B')
    (hm' : ∀ μ, menB μ B → men μ (get x) = true → menB μ B') : OpSem P o get .any [(k, B)] [(k, some B')] none :=
  ⟨fun K Z ν w ev μ rs h1 hg hzk hkl hx hrd hkn => by
    obtain ⟨ra, ma⟩ := hx a (by rw [ho]; simp [Op.operands])
    obtain ⟨rx, mx⟩ := hx x (by rw [ho]; simp [Op.operands])
    rw [ha] at ra
    obtain ⟨b, f, hb, ea⟩ := ra
    have ea := one1 ea
    have hk : rs k = some B := hrd (k, B) (by simp)
    obtain ⟨F0, s0, m0, u0, hF0, swap⟩ := Zdz hg hzk hkl hk
    have hr := Zfq hp (Zda h1 (Zfu hc) rx)
    have hvs : (ev x).cells.toList.length = i.size := by rw [hr, hlen]
    obtain ⟨b', f', hb', hbF, hrun, hw⟩ := row_set (P := P) (hs _ _ _ _ _ s0) hix (o := off) (vs := (ev x).cells.toList) (by omega) (oneCC h1 hc rx)
    rw [hb] at hb'
    simp only [Option.some.injEq, Prod.mk.injEq] at hb'
    obtain ⟨rfl, rfl⟩ := hb'
    obtain ⟨w1, w2, w3, w4, w5, w6⟩ := hw _ rfl
    generalize hwd : w.setRow b _ = w' at hrun w1 w2 w3 w4 w5 w6
    have hzw : ∀ y, Z y → w'.heap[y]? = w.heap[y]? := fun y hy => w1 y (fun e => (hF0 b hbF).1 (hzk b (e ▸ hy)))
    refine ⟨undef, w', ν, Z, .inr ⟨Zfc ho ?_, rfl⟩, ⟨⟨w3, w4, w5, by omega, fun y hy => w1 y (fun e => (hF0 b hbF).1 (e ▸ hy))⟩, fun _ h => h, fun _ h => .inl h⟩, fun _ _ => rfl, h1, ?_, ⟨_, rfl⟩, rfl, fun y hy => by rw [w2]; exact hkl y (hzk y hy)⟩
    · rw [ea]
      exact Zff ht (by simpa using hvs) _ hrun
    · rw [Zbq hzk]
      have := swap w' ν k B' F0 (by omega) (fun y hy _ => w1 y (fun e => hy (e ▸ hbF))) (fun _ _ => rfl) (.inl rfl) (hs' Z w w' ν (ν k) F0 (ev x).cells.toList hzw hvs (Zbk (fun _ h => h) hzw (Zda h1 (Zfu hc) rx)) w6)
        (Zcu Zby (hm' μ m0 mx)) (fun y hy => ⟨.inl hy, by rw [w2]; exact (hF0 y hy).2⟩)
      rw [Zer u0, Zds] at this
      exact this⟩
theorem Zch {α : Type} {xs : List α} {i j : Nat} {v d : α} (hi : i < xs.length) : (xs.set i v).getD j d = if j = i then v else xs.getD j d := by
  simp only [List.getD_eq_getElem?_getD, List.getElem?_set]
  by_cases h : i = j
  · subst h; simp [hi]
  · simp [h, Ne.symm h]
theorem opsem_store_ints {o : Oper} {t k ix : Nat} {i : TI} {a x : Operand} {n : Int} {xs : List Int} (ho : o.op = .store t a x) (ht : TOK P t i) (hsz : i.size = 1) (ha : get a = .adr k 1 ix 0) (hx : get x = .int .i64 n) (hix : ix < xs.length) :
    OpSem P o get .any [(k, .ints xs)] [(k, some (.ints (xs.set ix n)))] none := by
  refine Zcd (sz := 1) ho ht ha (by rw [hx]; rfl) (by rw [hx]; rfl) (by rw [hx, hsz]; rfl) (by omega) hix (fun _ _ _ => intAt xs) (fun Z w ν y F h => h) ?_ (fun _ _ _ => trivial)
  intro Z w w' ν y F vs hz hl hr hrow
  rw [hx] at hr
  obtain ⟨v, vs', rfl, r1, r2⟩ := hr
  have hv := one1 r1
  have : vs' = [] := r2
  subst this hv
  show row w' y 1 (xs.set ix n).length _ F
  rw [List.length_set]
  refine Za8 (fun _ _ => rfl) (fun j es hj => ?_) hrow
  rintro ⟨es0, e1, e2, e3⟩
  rw [intAt] at e1 ⊢
  rw [Zch hix]
  by_cases h : j = ix
  · rw [if_pos h] at e3 ⊢; rw [e3, e1]; rfl
  · rw [if_neg h] at e3 ⊢; rw [e3, e1]
theorem opsem_store_bools {o : Oper} {t k ix : Nat} {i : TI} {a x : Operand} {n : Bool} {xs : List Bool} (ho : o.op = .store t a x) (ht : TOK P t i) (hsz : i.size = 1) (ha : get a = .adr k 1 ix 0) (hx : get x = .bool n) (hix : ix < xs.length) :
    OpSem P o get .any [(k, .bools xs)] [(k, some (.bools (xs.set ix n)))] none := by
  refine Zcd (sz := 1) ho ht ha (by rw [hx]; rfl) (by rw [hx]; rfl) (by rw [hx, hsz]; rfl) (by omega) hix (fun _ _ _ => boolAt xs) (fun Z w ν y F h => h) ?_ (fun _ _ _ => trivial)
  intro Z w w' ν y F vs hz hl hr hrow
  rw [hx] at hr
  obtain ⟨v, vs', rfl, r1, r2⟩ := hr
  have hv := one1 r1
  have : vs' = [] := r2
  subst this hv
  show row w' y 1 (xs.set ix n).length _ F
  rw [List.length_set]
  refine Za8 (fun _ _ => rfl) (fun j es hj => ?_) hrow
  rintro ⟨es0, e1, e2, e3⟩
  rw [boolAt] at e1 ⊢
  rw [Zch hix]
  by_cases h : j = ix
  · rw [if_pos h] at e3 ⊢; rw [e3, e1]; rfl
  · rw [if_neg h] at e3 ⊢; rw [e3, e1]
theorem opsem_store_rowsR {o : Oper} {t k ix : Nat} {i : TI} {a x : Operand} {ys : List Int} {xs : List (List Int)} (ho : o.op = .store t a x) (ht : TOK P t i) (hsz : i.size = 1) (ha : get a = .adr k 1 ix 0) (hx : get x = .roI ys) (hix : ix < xs.length) :
    OpSem P o get .any [(k, .rowsR xs)] [(k, some (.rowsR (xs.set ix ys)))] none := by
  refine Zcd (sz := 1) ho ht ha (by rw [hx]; rfl) (by rw [hx]; rfl) (by rw [hx, hsz]; rfl) (by omega) hix (fun Z w ν j es => R Z w (.roI (xs.getD j [])) ν false es) (fun Z w ν y F h => h) ?_ (fun _ _ _ => trivial)
  intro Z w w' ν y F vs hz hl hr hrow
  rw [hx] at hr
  obtain ⟨v, vs', rfl, r1, r2⟩ := hr
  have : vs' = [] := r2
  subst this
  show row w' y 1 (xs.set ix ys).length _ F
  rw [List.length_set]
  refine Za8 (fun _ _ => rfl) (fun j es hj => ?_) hrow
  rintro ⟨es0, e1, e2, e3⟩
  rw [Zch hix]
  by_cases h : j = ix
  · rw [if_pos h] at e3 ⊢
    obtain ⟨z, rfl⟩ := List.length_eq_one_iff.1 e2
    rw [e3]; exact r1
  · rw [if_neg h] at e3 ⊢; rw [e3]; exact Zbk (fun _ h => h) hz e1
/-- A part of a variable written anew. -/
def updv (u : AV) (o : Nat) (x : AV) : AV := match u with
  | .agg l => .agg (appL (takeL l o) (appL (cellsL x) (dropL l (o + lenL (cellsL x)))))
  | _ => x
theorem updv_R {u x : AV} {o : Nat} {cs vs : List Value} (hp : properL (cellsL x) = true) (hu : isV u = true) (hpu : properL (cellsL u) = true) (hle : o + lenL (cellsL x) ≤ lenL (cellsL u)) (hne : 0 < lenL (cellsL x)) (hax : isAg u = false → isAg x = false) (hvx : isV x = true)
    (hr : R Z w u ν false cs) (hx : R Z w (cellsL x) ν true vs) : R Z w (updv u o x) ν false (cs.take o ++ vs ++ cs.drop (o + vs.length)) := by
  have hlen := Zfq hp hx
  cases u with
  | agg l =>
    rw [hlen, List.append_assoc]
    have hpl : properL l = true := hpu
    exact Zhp (Zdl (by simp only [cellsL] at hle; omega)) (Zhk hr (by simp only [cellsL] at hle; omega)) (Zhp hp hx (Zhm hr hle))
  | _ =>
    have hle : o + lenL (cellsL x) ≤ 1 := hle
    have ho : o = 0 := by omega
    have hl1 : lenL (cellsL x) = 1 := by omega
    subst ho
    have hcs : cs.length = 1 := by
      first
        | exact Zfq (l := AV.cons _ AV.nil) rfl (Zfr hu hr)
    have hvl : vs.length = 1 := by omega
    rw [List.take_zero, List.nil_append, List.drop_eq_nil_of_le (by omega), List.append_nil]
    show R Z w x ν false vs
    have ha := hax rfl
    rw [Zhl ha]
    obtain ⟨v, rfl⟩ := List.length_eq_one_iff.1 hvl
    cases x <;> first | (cases ha; done) | (obtain ⟨v', vs', e, r1, r2⟩ := hx; simp only [List.cons.injEq] at e; obtain ⟨rfl, rfl⟩ := e; exact r1)
theorem men_updv {u x : AV} {o : Nat} (hu : men μ u = true) (hx : men μ x = true) : men μ (updv u o x) = true := by
  cases u with
  | agg l => exact Zge (Ze1 hu) (Zge (Zce hx) (Ze3 hu))
  | _ => exact hx
/-- A store into a variable, or a field of it. -/
theorem opsem_store_box {o : Oper} {t k off : Nat} {i : TI} {a x : Operand} {u : AV} (ho : o.op = .store t a x) (ht : TOK P t i) (ha : (get a = .own k ∧ off = 0) ∨ get a = .adr k 0 0 off) (hc : isCC (get x) = true) (hp : properL (cellsL (get x)) = true) (hlen : lenL (cellsL (get x)) = i.size) (hpos : 0 < i.size)
    (hu : isV u = true) (hpu : properL (cellsL u) = true) (hle : off + i.size ≤ lenL (cellsL u)) (hax : isAg u = false → isAg (get x) = false) : OpSem P o get .any [(k, .box u)] [(k, some (.box (updv u off (get x))))] none :=
  ⟨fun K Z ν w ev μ rs h1 hg hzk hkl hx hrd hkn => by
    obtain ⟨ra, ma⟩ := hx a (by rw [ho]; simp [Op.operands])
    obtain ⟨rx, mx⟩ := hx x (by rw [ho]; simp [Op.operands])
    have hk : rs k = some (.box u) := hrd (k, .box u) (by simp)
    obtain ⟨F0, s0, m0, u0, hF0, swap⟩ := Zdz hg hzk hkl hk
    obtain ⟨b, cells, T, hxv, hb, r, hF⟩ := s0
    have hbF : F0 b := (hF b).2 rfl
    have rxc := Zda h1 (Zfu hc) rx
    have hr := Zfq hp rxc
    have hvs : (ev x).cells.toList.length = i.size := by rw [hr, hlen]
    have hclen : cells.size = lenL (cellsL u) := by simpa using Zfq hpu (Zfr hu r)
    have ea : ev a = .pointer (some ⟨b, off, none⟩) := by
      rcases ha with ⟨ha, rfl⟩ | ha
      · rw [ha] at ra; rw [one1 ra, hxv]
      · rw [ha] at ra
        obtain ⟨b', f', hb', e⟩ := ra
        rw [hxv] at hb'
        simp only [baseOf, Option.some.injEq, Prod.mk.injEq] at hb'
        obtain ⟨rfl, rfl⟩ := hb'
        rw [one1 e]; simp
    have hst := run_storeCells_at (P := P) b off T (ev x).cells.toList 0 cells w hb (by omega) (oneCC h1 hc rx)
    simp only [Nat.add_zero] at hst
    have hnew := setRow_heap w b cells (cells.toList.take off ++ (ev x).cells.toList ++ cells.toList.drop (off + (ev x).cells.toList.length)).toArray T (0, 0) hb
    generalize hwd : w.setRow b _ = w' at hst hnew
    have w1 : ∀ y, y ≠ b → w'.heap[y]? = w.heap[y]? := fun y hy => by rw [← hwd]; exact setRow_other w b y _ hy
    have w2 : w'.heap.size = w.heap.size := by rw [← hwd]; simp
    have hzw : ∀ y, Z y → w'.heap[y]? = w.heap[y]? := fun y hy => w1 y (fun e => (hF0 b hbF).1 (hzk b (e ▸ hy)))
    refine ⟨undef, w', ν, Z, .inr ⟨Zfc ho ?_, rfl⟩, ⟨⟨by rw [← hwd]; rfl, by rw [← hwd]; rfl, by rw [← hwd]; rfl, by omega, fun y hy => w1 y (fun e => (hF0 b hbF).1 (e ▸ hy))⟩, fun _ h => h, fun _ h => .inl h⟩, fun _ _ => rfl, h1, ?_, ⟨_, rfl⟩, rfl, fun y hy => by rw [w2]; exact hkl y (hzk y hy)⟩
    · rw [ea]
      exact Zff ht (by simpa using hvs) _ hst
    · rw [Zbq hzk]
      have := swap w' ν k (.box (updv u off (get x))) F0 (by omega) (fun y hy _ => w1 y (fun e => hy (e ▸ hbF))) (fun _ _ => rfl) (.inl rfl)
        ⟨b, _, T, hxv, hnew, by
          have := updv_R (o := off) (x := get x) hp hu hpu (by omega) (by omega) hax (Zh5 (Zfu hc)) (Zbk (fun _ h => h) hzw r) (Zbk (fun _ h => h) hzw rxc)
          simpa using this, hF⟩
        (Zc2 Zby (men_updv m0 mx)) (fun y hy => ⟨.inl hy, by rw [w2]; exact (hF0 y hy).2⟩)
      rw [Zer u0, Zds] at this
      exact this⟩
/-- A store of a struct, or into a field of one, in a slice of structs. -/
theorem opsem_store_avs {o : Oper} {t k sz ix off n : Nat} {i : TI} {a x : Operand} {f : Nat → AV} (ho : o.op = .store t a x) (ht : TOK P t i) (ha : get a = .adr k sz ix off) (hc : isCC (get x) = true) (hp : properL (cellsL (get x)) = true) (hlen : lenL (cellsL (get x)) = i.size) (hpos : 0 < i.size) (hix : ix < n)
    (hu : isV (f ix) = true) (hpu : properL (cellsL (f ix)) = true) (hsz : lenL (cellsL (f ix)) = sz) (hle : off + i.size ≤ sz) (hax : isAg (f ix) = false → isAg (get x) = false) :
    OpSem P o get .any [(k, .avs sz n f)] [(k, some (.avs sz n (fun j => if j = ix then updv (f ix) off (get x) else f j)))] none := by
  refine Zcd (sz := sz) ho ht ha hc hp hlen hle hix (fun Z w ν j es => R Z w (f j) ν false es) (fun Z w ν y F h => h) ?_ (fun μ hB hm j hj => ?_)
  · intro Z w w' ν y F vs hz hl hr hrow
    refine Za8 (fun _ _ => rfl) (fun j es hj => ?_) hrow
    rintro ⟨es0, e1, e2, e3⟩
    by_cases h : j = ix
    · subst h
      dsimp only
      rw [if_pos rfl] at e3 ⊢
      rw [e3]
      exact updv_R hp hu hpu (by omega) (by omega) hax (Zh5 (Zfu hc)) (Zbk (fun _ h => h) hz e1) hr
    · dsimp only; rw [if_neg h] at e3 ⊢; rw [e3]; exact Zbk (fun _ h => h) hz e1
  · dsimp only
    split
    · exact men_updv (hB ix hix) hm
    · exact hB j hj
end
end Go.Proofs.Ytbcghiagomkadaa.Cal
namespace Go.Proofs.Ytbcghiagomkadaa.Cal
open Go
section
variable {P : Program} {K Z : Nat → Prop} {ν : Nat → Value} {w : World} {get : Operand → AV} {ev : Operand → Value} {μ : Nat → Bool} {rs : Rs} {tb : Nat → Option TI}
/-- A slice's elements, laid out: m of them. -/
structure Src (w : World) (v : Value) (sz m : Nat) (g : Nat → List Value → Prop) (A : Option Addr) (c : Nat) (news : List Value) : Prop where
  val : v = .slice A m c
  len : news.length = m * sz
  rd : ∀ ad, A = some ad → ∀ j u, news[j]? = some u → w.cell? (ad.add j) = some u
  nil : A = none → news = []
  el : ∀ j, j < m → g j ((news.drop (j * sz)).take sz)
  one : ∀ u, u ∈ news → u.oneCell' = true
theorem Ze9 {v : Value} {sz m : Nat} {g : Nat → List Value → Prop} (hone : ∀ j es, j < m → g j es → ∀ u, u ∈ es → u.oneCell' = true) {A : Option Addr} {c : Nat} (hv : v = .slice A m c) (h0 : m = 0 → A = none ∨ sz = sz)
    (h : 0 < m → ∃ b o, A = some ⟨b, o, none⟩ ∧ ∀ j, j < m → ∃ es, g j es ∧ es.length = sz ∧ ∀ (i : Nat) x, es[i]? = some x → w.cell? ⟨b, o + (j * sz + i), none⟩ = some x) : ∃ news, Src w v sz m g A c news := by
  by_cases hm : m = 0
  · subst hm
    exact ⟨[], hv, by simp, fun _ _ j u h => by simp at h, fun _ => rfl, fun j hj => by omega, fun u hu => by simp at hu⟩
  · obtain ⟨b, o, rfl, hc⟩ := h (by omega)
    have hel : ∀ j, j < m → ∃ es, g j es ∧ es.length = sz ∧ (((List.range (m * sz)).map fun q => (w.cell? ⟨b, o + q, none⟩).getD undef).drop (j * sz)).take sz = es ∧ ∀ (i : Nat) x, es[i]? = some x → w.cell? ⟨b, o + (j * sz + i), none⟩ = some x := by
      intro j hj
      obtain ⟨es, e1, e2, e3⟩ := hc j hj
      have hle : j * sz + sz ≤ m * sz := by rw [← Nat.succ_mul]; exact Nat.mul_le_mul_right _ hj
      refine ⟨es, e1, e2, List.ext_getElem? fun q => ?_, e3⟩
      rw [List.getElem?_take, List.getElem?_drop]
      by_cases hq : q < sz
      · rw [if_pos hq, List.getElem?_map, List.getElem?_range (by omega)]
        obtain ⟨x, hx⟩ : ∃ x, es[q]? = some x := ⟨es[q], List.getElem?_eq_getElem (by omega)⟩
        rw [hx, Option.map_some, e3 q x hx]; rfl
      · rw [if_neg hq, List.getElem?_eq_none (by omega)]
    refine ⟨(List.range (m * sz)).map fun q => (w.cell? ⟨b, o + q, none⟩).getD undef, hv, by simp, ?_, by simp, fun j hj => ?_, fun u hu => ?_⟩
    · intro ad had q u hq
      simp only [Option.some.injEq] at had
      subst had
      rw [List.getElem?_map] at hq
      have hqs : q < m * sz := by
        rcases Nat.lt_or_ge q (m * sz) with h | h
        · exact h
        · rw [List.getElem?_eq_none (by simpa using h)] at hq; cases hq
      rw [List.getElem?_range hqs, Option.map_some, Option.some.injEq] at hq
      subst hq
      have hsz : 0 < sz := by
        rcases Nat.eq_zero_or_pos sz with h | h
        · rw [h] at hqs; omega
        · exact h
      obtain ⟨es, e1, e2, e3, e4⟩ := hel (q / sz) ((Nat.div_lt_iff_lt_mul hsz).2 hqs)
      have hmod := Nat.mod_lt q hsz
      obtain ⟨x, hx⟩ : ∃ x, es[q % sz]? = some x := ⟨es[q % sz], List.getElem?_eq_getElem (by omega)⟩
      have := e4 _ _ hx
      have hdm : q / sz * sz + q % sz = q := by rw [Nat.mul_comm]; exact Nat.div_add_mod q sz
      rw [hdm] at this
      rw [Addr.add_lit, this]; rfl
    · obtain ⟨es, e1, e2, e3, e4⟩ := hel j hj
      rw [e3]; exact e1
    · obtain ⟨q, hq, rfl⟩ := List.mem_map.1 hu
      have hqs := List.mem_range.1 hq
      have hsz : 0 < sz := by
        rcases Nat.eq_zero_or_pos sz with h | h
        · rw [h] at hqs; omega
        · exact h
      have hlt := (Nat.div_lt_iff_lt_mul hsz).2 hqs
      obtain ⟨es, e1, e2, e3, e4⟩ := hel (q / sz) hlt
      have hmod := Nat.mod_lt q hsz
      obtain ⟨x, hx⟩ : ∃ x, es[q % sz]? = some x := ⟨es[q % sz], List.getElem?_eq_getElem (by omega)⟩
      have := e4 _ _ hx
      have hdm : q / sz * sz + q % sz = q := by rw [Nat.mul_comm]; exact Nat.div_add_mod q sz
      rw [hdm] at this
      rw [this]
      exact hone _ es hlt e1 x (List.mem_of_getElem? hx)
theorem Zhh {v : Value} {sz m : Nat} {g : Nat → List Value → Prop} (hone : ∀ j es, j < m → g j es → ∀ u, u ∈ es → u.oneCell' = true) (h : roRow Z w sz m g [v]) : ∃ A c news, Src w v sz m g A c news := by
  obtain ⟨A, cap, e, h1, h2, h3⟩ := h
  obtain ⟨news, hs⟩ := Ze9 (w := w) hone (one1 e) (fun _ => .inr rfl) (fun hm => by
    obtain ⟨b, o, hA, _, hc⟩ := h3 hm
    exact ⟨b, o, hA, hc⟩)
  exact ⟨A, cap, news, hs⟩
theorem Zgz {v : Value} {sz m : Nat} {g : Nat → List Value → Prop} {F : Nat → Prop} (hone : ∀ j es, j < m → g j es → ∀ u, u ∈ es → u.oneCell' = true) (h : row w v sz m g F) : ∃ A c news, Src w v sz m g A c news := by
  rcases h with ⟨h0, h1, _⟩ | ⟨b, o, cap, cells, T, hx, _, _, hh, _, _, hc⟩
  · subst h1
    obtain ⟨news, hs⟩ := Ze9 (w := w) (v := v) (sz := sz) (m := 0) (g := g) hone h0 (fun _ => .inr rfl) (fun hm => by omega)
    exact ⟨_, _, news, hs⟩
  · obtain ⟨news, hs⟩ := Ze9 (w := w) hone hx (fun _ => .inr rfl) (fun hm => ⟨b, o, rfl, fun j hj => by
      obtain ⟨es, e1, e2, e3⟩ := hc j hj
      exact ⟨es, e1, e2, fun i c hi => Zcx hh (e3 i c hi)⟩⟩)
    exact ⟨_, _, news, hs⟩
theorem int_one {xs : List Int} {m : Nat} : ∀ j es, j < m → intAt xs j es → ∀ u, u ∈ es → u.oneCell' = true := by
  intro j es _ h u hu; rw [h] at hu; simp at hu; subst hu; rfl
theorem bool_one {xs : List Bool} {m : Nat} : ∀ j es, j < m → boolAt xs j es → ∀ u, u ∈ es → u.oneCell' = true := by
  intro j es _ h u hu; rw [h] at hu; simp at hu; subst hu; rfl
theorem ro_one {xs : List (List Int)} {m : Nat} : ∀ j es, j < m → R Z w (.roI (xs.getD j [])) ν false es → ∀ u, u ∈ es → u.oneCell' = true := by
  intro j es _ h u hu
  obtain ⟨A, cap, e, _⟩ := h
  rw [e] at hu; simp at hu; subst hu; rfl
def dstX (u : AV) : Option Nat → Prop
  | some k => u = .own k
  | none => u = .cst (.slice none 0 0)
def dstG (sz n : Nat) (g : (Nat → Prop) → World → (Nat → Value) → Nat → List Value → Prop) (B0 : Blk) : Option Nat → Prop
  | some _ => ∀ Z w ν v F, sat Z w ν v F B0 → row w v sz n (g Z w ν) F
  | none => n = 0
def dstW (kn : Nat) (B : Blk) : Option Nat → List (Nat × Option Blk)
  | some k => [(kn, some B), (k, none)]
  | none => [(kn, some B)]
/-- append, over whatever elements. What is read: 'rd'; what it was: 'k0'. -/
theorem Zc1 {o : Oper} {t e : Nat} {i ie : TI} {x y : Operand} (ho : o.op = .call ⟨.builtin .append, #[x, y], #[t, t]⟩) (ht : TOK P t i) (hk : i.k = .slc e) (he : TOK P e ie) (hsz : 0 < ie.size) {n m : Nat} (hlim : n + m ≤ lim) (hb : (n + m) * ie.bytes ≤ lim) (kn : Nat)
    {k0 : Option Nat} {B0 B : Blk} (hx0 : dstX (get x) k0) {rd : List (Nat × Blk)} (hrd0 : ∀ k, k0 = some k → (k, B0) ∈ rd)
    (g : (Nat → Prop) → World → (Nat → Value) → Nat → List Value → Prop) (hg0 : dstG ie.size n g B0 k0) (hgm : ∀ (Z : Nat → Prop) (w w' : World) ν j es, (∀ b, Z b → w'.heap[b]? = w.heap[b]?) → j < n → g Z w ν j es → g Z w' ν j es)
    (g' : (Nat → Prop) → World → (Nat → Value) → Nat → List Value → Prop) (hsrc : ∀ (K Z : Nat → Prop) (ν : Nat → Value) (w : World) (μ : Nat → Bool) (rs : Rs) (v : Value), (∀ k, (ν k).oneCell' = true) → GoodRs K Z w ν μ rs → (∀ p, p ∈ rd → rs p.1 = some p.2) → R Z w (get y) ν true [v] → ∃ A c news, Src w v ie.size m (g' Z w ν) A c news)
    (hgm' : ∀ (Z : Nat → Prop) (w w' : World) ν j es, (∀ b, Z b → w'.heap[b]? = w.heap[b]?) → j < m → g' Z w ν j es → g' Z w' ν j es)
    (hB : ∀ Z w ν ν' v F, row w v ie.size (n + m) (fun j es => if j < n then g Z w ν j es else g' Z w ν (j - n) es) F → sat Z w ν' v F B) (hmB : ∀ μ, menB μ B) :
    OpSem P o get (.own kn) rd (dstW kn B k0) (some kn) :=
  ⟨fun K Z ν w ev μ rs h1 hg hzk hkl hx hrd hkn => by
    have hk2 := hkn kn rfl
    obtain ⟨rx, mx⟩ := hx x (by rw [ho]; simp [Op.operands, Call.operands])
    obtain ⟨ry, my⟩ := hx y (by rw [ho]; simp [Op.operands, Call.operands])
    obtain ⟨A, c, news, hs⟩ := hsrc K Z ν w μ rs (ev y) h1 hg hrd ry
    have hexec : ∀ (v : Value) (w' : World), (Builtin.append_ #[t, t] o.type #[ev x, ev y]).run P w = .ok v w' → (execOp ev o).run P w = .ok (.value v) w' := fun v w' h => by
      simp [execOp, ho, resolve, invoke, builtin, Sem.run_bind, h, Result.andThen, Sem.run]
    have hnew : ∀ (g0 : Nat → List Value → Prop) (w' : World) (v : Value) (F : Nat → Prop), (∀ b, Z b → w'.heap[b]? = w.heap[b]?) → (∀ j es, j < n → g0 j es → g Z w ν j es) →
        row w' v ie.size (n + m) (fun j es => if j < n then g0 j es else es = (news.drop ((j - n) * ie.size)).take ie.size) F → row w' v ie.size (n + m) (fun j es => if j < n then g Z w' ν j es else g' Z w' ν (j - n) es) F := by
      intro g0 w' v F hz h0 h
      refine Za8 (fun _ _ => rfl) (fun j es hj hje => ?_) h
      by_cases hjn : j < n
      · rw [if_pos hjn] at hje ⊢; exact hgm Z w w' ν j es hz hjn (h0 j es hjn hje)
      · rw [if_neg hjn] at hje ⊢; rw [hje]; exact hgm' Z w w' ν _ _ hz (by omega) (hs.el (j - n) (by omega))
    cases k0 with
    | some k =>
      have hrk : rs k = some B0 := hrd _ (hrd0 k rfl)
      obtain ⟨F0, s0, m0, u0, hF0, swap⟩ := Zdz hg hzk hkl hrk
      have hx0 : get x = .own k := hx0
      rw [hx0] at rx
      have ex := one1 rx
      have hrow : row w (ev x) ie.size n (g Z w ν) F0 := by rw [ex]; exact hg0 Z w ν _ _ s0
      obtain ⟨x', w', F', a1, a2, a3, a4, a5, a6, a7, a8, a9⟩ := row_append (P := P) (ty := o.type) ht hk he hrow hsz hs.len hs.rd hs.nil hs.one hlim hb (fun y hy => (hF0 y hy).2)
      have hKw : ∀ b, K b → w'.heap[b]? = w.heap[b]? := fun b hb => a3 b (fun hf => (hF0 b hf).1 hb) (hkl b hb)
      rw [hs.val] at hexec
      refine ⟨x', w', upN ν kn x', Z, .inl (hexec _ _ a1), ⟨⟨a5, a6, a7, a4, hKw⟩, fun _ h => h, fun _ h => .inl h⟩, Zb0 hk2, Zcs h1 a9, ?_, ?_, Zbx, fun b hb => by have := hkl b (hzk b hb); omega⟩
      · rw [Zbq hzk]
        exact swap w' (upN ν kn x') kn B F' a4 a3 (Zb0 hk2) (.inr hk2) (by rw [upN_same]; exact hB Z w' ν _ _ _ (hnew _ w' x' F' (fun b hb => hKw b (hzk b hb)) (fun _ _ _ h => h) a2)) (hmB _) a8
      · show [_] = [_]; rw [upN_same]
    | none =>
      have hx0 : get x = .cst (.slice none 0 0) := hx0
      have hn0 : n = 0 := hg0
      subst hn0
      rw [hx0] at rx
      have ex := one1 rx
      have hrow : row w (ev x) ie.size 0 (fun _ _ => False) (fun _ => False) := .inl ⟨ex, rfl, fun _ h => h⟩
      obtain ⟨x', w', F', a1, a2, a3, a4, a5, a6, a7, a8, a9⟩ := row_append (P := P) (ty := o.type) ht hk he hrow hsz hs.len hs.rd hs.nil hs.one hlim hb (fun y hy => hy.elim)
      have hold : ∀ b, b < w.heap.size → w'.heap[b]? = w.heap[b]? := fun b hb => a3 b (fun h => h) hb
      rw [hs.val] at hexec
      have hrow' := hnew _ w' x' F' (fun b hb => hold b (hkl b (hzk b hb))) (fun _ _ h _ => by omega) a2
      refine ⟨x', w', upN ν kn x', Z, .inl (hexec _ _ a1), ⟨⟨a5, a6, a7, a4, fun b hb => hold b (hkl b hb)⟩, fun _ h => h, fun _ h => .inl h⟩, Zb0 hk2, Zcs h1 a9, ?_, ?_, Zbx, fun b hb => by have := hkl b (hzk b hb); omega⟩
      · rw [Zbq hzk]
        exact Zea hg hzk hkl hk2 a4 hold (hB Z w' ν _ _ _ hrow') (hmB _) (fun y hy => by
          have := a8 y hy
          exact ⟨this.1.elim (fun h => h.elim) id, this.2⟩)
      · show [_] = [_]; rw [upN_same]⟩
/-! ### What may be appended -/
/-- Elements of a slice, read. -/
def SrcOf (rd : List (Nat × Blk)) (u : AV) (sz m : Nat) (g' : (Nat → Prop) → World → (Nat → Value) → Nat → List Value → Prop) : Prop :=
  ∀ (K Z : Nat → Prop) (ν : Nat → Value) (w : World) (μ : Nat → Bool) (rs : Rs) (v : Value), (∀ k, (ν k).oneCell' = true) → GoodRs K Z w ν μ rs → (∀ p, p ∈ rd → rs p.1 = some p.2) → R Z w u ν true [v] → ∃ A c news, Src w v sz m (g' Z w ν) A c news
theorem src_roI {rd : List (Nat × Blk)} {ys : List Int} : SrcOf rd (.roI ys) 1 ys.length (fun _ _ _ => intAt ys) := fun K Z ν w μ rs v _ _ _ h => Zhh int_one h
theorem src_roB {rd : List (Nat × Blk)} {ys : List Bool} : SrcOf rd (.roB ys) 1 ys.length (fun _ _ _ => boolAt ys) := fun K Z ν w μ rs v _ _ _ h => Zhh bool_one h
theorem src_roII {rd : List (Nat × Blk)} {ys : List (List Int)} : SrcOf rd (.roII ys) 1 ys.length (fun Z w ν j es => R Z w (.roI (ys.getD j [])) ν false es) := fun K Z ν w μ rs v _ _ _ h => Zhh ro_one h
theorem src_own {rd : List (Nat × Blk)} {k : Nat} {ys : List Int} (hr : (k, Blk.ints ys) ∈ rd) : SrcOf rd (.own k) 1 ys.length (fun _ _ _ => intAt ys) := fun K Z ν w μ rs v _ hg hrd h => by
  obtain ⟨Ft, hF⟩ := hg
  obtain ⟨_, _, hs, _⟩ := hF k _ (hrd _ hr)
  rw [one1 h]
  exact Zgz int_one hs
theorem src_ownB {rd : List (Nat × Blk)} {k : Nat} {ys : List Bool} (hr : (k, Blk.bools ys) ∈ rd) : SrcOf rd (.own k) 1 ys.length (fun _ _ _ => boolAt ys) := fun K Z ν w μ rs v _ hg hrd h => by
  obtain ⟨Ft, hF⟩ := hg
  obtain ⟨_, _, hs, _⟩ := hF k _ (hrd _ hr)
  rw [one1 h]
  exact Zgz bool_one hs
theorem src_ownR {rd : List (Nat × Blk)} {k : Nat} {ys : List (List Int)} (hr : (k, Blk.rowsR ys) ∈ rd) : SrcOf rd (.own k) 1 ys.length (fun Z w ν j es => R Z w (.roI (ys.getD j [])) ν false es) := fun K Z ν w μ rs v _ hg hrd h => by
  obtain ⟨Ft, hF⟩ := hg
  obtain ⟨_, _, hs, _⟩ := hF k _ (hrd _ hr)
  rw [one1 h]
  exact Zgz ro_one hs
/-- One struct that nobody writes. -/
theorem src_one {rd : List (Nat × Blk)} {sz : Nat} {g : Nat → AV} (ha : isAg (g 0) = true) (hc : isCC (g 0) = true) : SrcOf rd (.ro sz 1 g) sz 1 (fun Z w _ _ es => R Z w (g 0) nu0 false es) := fun K Z ν w μ rs v _ _ _ h => by
  refine Zhh (fun j es _ hr u hu => ?_) (Zbf (fun _ h => h) (fun _ _ => rfl) (fun j es hj hh => ?_) h)
  · cases hg : g 0 with
    | agg l =>
      rw [hg] at hr hc
      exact oneL (ν := nu0) (fun _ => rfl) hc hr u hu
    | _ => rw [hg] at ha; cases ha
  · obtain rfl : j = 0 := by omega
    exact hh.2
theorem Zgi {α : Type} {xs ys : List α} {d : α} {j n : Nat} (hn : n = xs.length) : (xs ++ ys).getD j d = if j < n then xs.getD j d else ys.getD (j - n) d := by
  subst hn
  simp only [List.getD_eq_getElem?_getD]
  split
  · rw [List.getElem?_append_left (by omega)]
  · rw [List.getElem?_append_right (by omega)]
section
variable {o : Oper} {t e : Nat} {i ie : TI} {x y : Operand}
theorem opsem_append_ints (ho : o.op = .call ⟨.builtin .append, #[x, y], #[t, t]⟩) (ht : TOK P t i) (hk : i.k = .slc e) (he : TOK P e ie) (hsz : ie.size = 1) {xs ys : List Int} (hlim : xs.length + ys.length ≤ 1000000000000) (hby : ie.bytes ≤ 100) (kn : Nat) {k0 : Option Nat} (hx0 : dstX (get x) k0) {rd : List (Nat × Blk)}
    (hrd0 : ∀ k, k0 = some k → (k, .ints xs) ∈ rd) (h0 : k0 = none → xs = []) (hs : SrcOf rd (get y) 1 ys.length (fun _ _ _ => intAt ys)) : OpSem P o get (.own kn) rd (dstW kn (.ints (xs ++ ys)) k0) (some kn) := by
  have hmul : (xs.length + ys.length) * ie.bytes ≤ 1000000000000 * 100 := Nat.mul_le_mul hlim hby
  refine Zc1 (n := xs.length) (m := ys.length) (B0 := .ints xs) ho ht hk he (by omega) (by simp only [lim]; omega) (by simp only [lim]; omega) kn hx0 hrd0 (fun _ _ _ => intAt xs) ?_ (fun _ _ _ _ _ _ _ _ h => h) (fun _ _ _ => intAt ys) (by rw [hsz]; exact hs) (fun _ _ _ _ _ _ _ _ h => h) ?_ (fun _ => trivial)
  · cases k0 with
    | none => exact by rw [h0 rfl]; rfl
    | some k => rw [hsz]; exact fun _ _ _ _ _ h => h
  · intro Z w ν ν' v F h
    show row w v 1 (xs ++ ys).length _ F
    rw [List.length_append, ← hsz]
    refine Za8 (fun _ _ => rfl) (fun j es hj hje => ?_) h
    rw [intAt, Zgi rfl]
    split
    · rw [if_pos ‹_›] at hje; exact hje
    · rw [if_neg ‹_›] at hje; exact hje
theorem opsem_append_bools (ho : o.op = .call ⟨.builtin .append, #[x, y], #[t, t]⟩) (ht : TOK P t i) (hk : i.k = .slc e) (he : TOK P e ie) (hsz : ie.size = 1) {xs ys : List Bool} (hlim : xs.length + ys.length ≤ 1000000000000) (hby : ie.bytes ≤ 100) (kn : Nat) {k0 : Option Nat} (hx0 : dstX (get x) k0) {rd : List (Nat × Blk)}
    (hrd0 : ∀ k, k0 = some k → (k, .bools xs) ∈ rd) (h0 : k0 = none → xs = []) (hs : SrcOf rd (get y) 1 ys.length (fun _ _ _ => boolAt ys)) : OpSem P o get (.own kn) rd (dstW kn (.bools (xs ++ ys)) k0) (some kn) := by
  have hmul : (xs.length + ys.length) * ie.bytes ≤ 1000000000000 * 100 := Nat.mul_le_mul hlim hby
  refine Zc1 (n := xs.length) (m := ys.length) (B0 := .bools xs) ho ht hk he (by omega) (by simp only [lim]; omega) (by simp only [lim]; omega) kn hx0 hrd0 (fun _ _ _ => boolAt xs) ?_ (fun _ _ _ _ _ _ _ _ h => h) (fun _ _ _ => boolAt ys) (by rw [hsz]; exact hs) (fun _ _ _ _ _ _ _ _ h => h) ?_ (fun _ => trivial)
  · cases k0 with
    | none => exact by rw [h0 rfl]; rfl
    | some k => rw [hsz]; exact fun _ _ _ _ _ h => h
  · intro Z w ν ν' v F h
    show row w v 1 (xs ++ ys).length _ F
    rw [List.length_append, ← hsz]
    refine Za8 (fun _ _ => rfl) (fun j es hj hje => ?_) h
    rw [boolAt, Zgi rfl]
    split
    · rw [if_pos ‹_›] at hje; exact hje
    · rw [if_neg ‹_›] at hje; exact hje
theorem opsem_append_rowsR (ho : o.op = .call ⟨.builtin .append, #[x, y], #[t, t]⟩) (ht : TOK P t i) (hk : i.k = .slc e) (he : TOK P e ie) (hsz : ie.size = 1) {xs ys : List (List Int)} (hlim : xs.length + ys.length ≤ 1000000000000) (hby : ie.bytes ≤ 100) (kn : Nat) {k0 : Option Nat} (hx0 : dstX (get x) k0) {rd : List (Nat × Blk)}
    (hrd0 : ∀ k, k0 = some k → (k, .rowsR xs) ∈ rd) (h0 : k0 = none → xs = []) (hs : SrcOf rd (get y) 1 ys.length (fun Z w ν j es => R Z w (.roI (ys.getD j [])) ν false es)) : OpSem P o get (.own kn) rd (dstW kn (.rowsR (xs ++ ys)) k0) (some kn) := by
  have hmul : (xs.length + ys.length) * ie.bytes ≤ 1000000000000 * 100 := Nat.mul_le_mul hlim hby
  refine Zc1 (n := xs.length) (m := ys.length) (B0 := .rowsR xs) ho ht hk he (by omega) (by simp only [lim]; omega) (by simp only [lim]; omega) kn hx0 hrd0 (fun Z w ν j es => R Z w (.roI (xs.getD j [])) ν false es) ?_ (fun _ _ _ _ _ _ hz _ h => Zbk (fun _ h => h) hz h)
    (fun Z w ν j es => R Z w (.roI (ys.getD j [])) ν false es) (by rw [hsz]; exact hs) (fun _ _ _ _ _ _ hz _ h => Zbk (fun _ h => h) hz h) ?_ (fun _ => trivial)
  · cases k0 with
    | none => exact by rw [h0 rfl]; rfl
    | some k => rw [hsz]; exact fun _ _ _ _ _ h => h
  · intro Z w ν ν' v F h
    show row w v 1 (xs ++ ys).length _ F
    rw [List.length_append, ← hsz]
    refine Za8 (fun _ _ => rfl) (fun j es hj hje => ?_) h
    rw [Zgi rfl]
    split
    · rw [if_pos ‹_›] at hje; exact Zcl rfl hje
    · rw [if_neg ‹_›] at hje; exact Zcl rfl hje
end
section
variable {o : Oper} {t e : Nat} {i ie : TI} {x y : Operand}
theorem opsem_append_avs (ho : o.op = .call ⟨.builtin .append, #[x, y], #[t, t]⟩) (ht : TOK P t i) (hk : i.k = .slc e) (he : TOK P e ie) {sz n : Nat} {f g : Nat → AV} (hsz : ie.size = sz) (hsp : 0 < sz) (hlim : n + 1 ≤ 1000000000) (hby : ie.bytes ≤ 1000) (kn : Nat) {k0 : Option Nat} (hx0 : dstX (get x) k0) {rd : List (Nat × Blk)}
    (hrd0 : ∀ k, k0 = some k → (k, .avs sz n f) ∈ rd) (h0 : k0 = none → n = 0) (hf : ∀ j, j < n → men noK (f j) = true) (hg : men noK (g 0) = true) (hs : SrcOf rd (get y) sz 1 (fun Z w _ _ es => R Z w (g 0) nu0 false es)) : OpSem P o get (.own kn) rd (dstW kn (.avs sz (n + 1) (fun j => if j < n then f j else g 0)) k0) (some kn) := by
  have hmul : (n + 1) * ie.bytes ≤ 1000000000 * 1000 := Nat.mul_le_mul hlim hby
  refine Zc1 (n := n) (m := 1) (B0 := .avs sz n f) ho ht hk he (by omega) (by simp only [lim]; omega) (by simp only [lim]; omega) kn hx0 hrd0 (fun Z w ν j es => R Z w (f j) ν false es) ?_ (fun _ _ _ _ _ _ hz _ h => Zbk (fun _ h => h) hz h)
    (fun Z w _ _ es => R Z w (g 0) nu0 false es) (by rw [hsz]; exact hs) (fun _ _ _ _ _ _ hz _ h => Zbk (fun _ h => h) hz h) ?_ (fun μ j hj => ?_)
  · cases k0 with
    | none => exact h0 rfl
    | some k => rw [hsz]; exact fun _ _ _ _ _ h => h
  · intro Z w ν ν' v F h
    show row w v sz (n + 1) _ F
    rw [← hsz]
    refine Za8 (fun _ _ => rfl) (fun j es hj hje => ?_) h
    dsimp only at hje ⊢
    split
    · rename_i hjn
      rw [if_pos hjn] at hje; exact Zcl (hf j hjn) hje
    · rename_i hjn
      rw [if_neg hjn] at hje; exact Zcl hg hje
  · dsimp only
    split
    · rename_i hjn; exact Zbr (hf j hjn)
    · exact Zbr hg
end
/-! ### Slices that are written out -/
theorem fill_seq {sz : Nat} : ∀ (vs : List Value) (n i0 : Nat) (cells : Array Value), (∀ v, v ∈ vs → v.cells.size = sz) → i0 + vs.length ≤ n → cells.size = n * sz →
    Instr.fill (fun i => some (i * sz, sz)) cells ((vs.zipIdx i0).map fun p => (p.2, p.1)) = some (cells.toList.take (i0 * sz) ++ (vs.flatMap fun v => v.cells.toList) ++ cells.toList.drop ((i0 + vs.length) * sz)).toArray := by
  intro vs
  induction vs with
  | nil => intro n i0 cells _ _ _; simp [Instr.fill]
  | cons v vs ih =>
    intro n i0 cells hv hle hsz
    have hv0 := hv v List.mem_cons_self
    have hmul : i0 * sz + sz ≤ n * sz := by rw [← Nat.succ_mul]; exact Nat.mul_le_mul_right _ (by simp at hle; omega)
    simp only [List.zipIdx_cons, List.map_cons, Instr.fill, hv0]
    rw [if_neg (by simp; omega)]
    have hs := set_cells (i0 * sz) v.cells cells (by omega)
    rw [hs]
    have hvl : v.cells.toList.length = sz := by simpa using hv0
    rw [ih n (i0 + 1) _ (fun u hu => hv u (List.mem_cons_of_mem _ hu)) (by simp at hle; omega) (by simp; omega)]
    congr 1
    apply congrArg List.toArray
    have e1 : (i0 + 1) * sz = i0 * sz + sz := Nat.succ_mul ..
    have e2 : (i0 + 1 + vs.length) * sz = i0 * sz + sz + vs.length * sz := by rw [Nat.add_mul, e1]
    have e3 : (i0 + (vs.length + 1)) * sz = i0 * sz + sz + vs.length * sz := by rw [← e2]; congr 1; omega
    simp only [List.flatMap_cons, List.length_cons, e1, e2, e3]
    have a1 : (cells.toList.take (i0 * sz)).length = i0 * sz := by simp; omega
    rw [List.take_append_of_le_length (by simp; omega), List.take_of_length_le (by simp; omega)]
    rw [List.drop_append, List.drop_eq_nil_of_le (by simp; omega), List.nil_append, List.drop_drop]
    have a2 : i0 * sz + sz + vs.length * sz - (List.take (i0 * sz) cells.toList ++ v.cells.toList).length = vs.length * sz := by
      rw [List.length_append, a1, hvl]; omega
    have a3 : i0 * sz + v.cells.size + vs.length * sz = i0 * sz + sz + vs.length * sz := by rw [hv0]
    rw [a2, a3]
    simp only [List.append_assoc]
end
end Go.Proofs.Ytbcghiagomkadaa.Cal
