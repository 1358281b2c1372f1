/- What single operations come to, over abstract values: slices that are written out; a slice that is cut; copy. -/
import Derived.Test.YtgminhedbeblpaaCal12
set_option linter.unusedVariables false
set_option linter.unusedSimpArgs false
namespace Go.Proofs.Ytgminhedbeblpaa.Cal
open Go

section
variable {P : Program} {K Z : Nat → Prop} {ν : Nat → Value} {w : World} {get : Operand → AV} {ev : Operand → Value} {μ : Nat → Bool} {rs : Rs} {tb : Nat → Option TI}

theorem flat_at {sz : Nat} : ∀ (vs : List Value), (∀ v, v ∈ vs → v.cells.size = sz) → ∀ (j i : Nat) (v : Value), vs[j]? = some v → i < sz → (vs.flatMap fun v => v.cells.toList)[j * sz + i]? = v.cells.toList[i]? := by
  intro vs
  induction vs with
  | nil => intro _ j i v h; simp at h
  | cons u vs ih =>
    intro hv j i v h hi
    have hu : u.cells.toList.length = sz := by simpa using hv u List.mem_cons_self
    rw [List.flatMap_cons]
    cases j with
    | zero =>
      simp only [List.getElem?_cons_zero, Option.some.injEq] at h
      subst h
      rw [Nat.zero_mul, Nat.zero_add, List.getElem?_append_left (by omega)]
    | succ j =>
      rw [List.getElem?_append_right (by rw [Nat.succ_mul]; omega)]
      have : (j + 1) * sz + i - u.cells.toList.length = j * sz + i := by rw [Nat.succ_mul]; omega
      rw [this]
      exact ih (fun v hv' => hv v (List.mem_cons_of_mem _ hv')) j i v h hi

theorem flat_len {sz : Nat} : ∀ (vs : List Value), (∀ v, v ∈ vs → v.cells.size = sz) → (vs.flatMap fun v => v.cells.toList).length = vs.length * sz := by
  intro vs
  induction vs with
  | nil => intro _; simp
  | cons u vs ih =>
    intro hv
    have hu : u.cells.toList.length = sz := by simpa using hv u List.mem_cons_self
    rw [List.flatMap_cons, List.length_append, ih (fun v hv' => hv v (List.mem_cons_of_mem _ hv')), List.length_cons, Nat.succ_mul]
    omega

theorem run_buildSlice {t e : Nat} {i ie : TI} (ht : TOK P t i) (hk : i.k = .slc e) (he : TOK P e ie) (vs : List Value) (hv : ∀ v, v ∈ vs → v.cells.size = ie.size) (hn : vs.length * ie.size ≤ 16777216) (w : World) :
    (Instr.buildSlice t vs.length (vs.zipIdx.map fun p => (p.2, p.1)).toArray).run P w = .ok (.slice (some ⟨w.heap.size, 0, none⟩) vs.length vs.length) (w.alloc (.cells (vs.flatMap fun v => v.cells.toList).toArray e)) := by
  obtain ⟨inf, hi1, hi2, hi3, z, hz1, hzs, _, _, hz2⟩ := he.info
  have hti : ∀ w : World, (typeInfo e).run P w = .ok inf w := fun w => by simp [typeInfo, Sem.run_bind, hi1, Result.andThen, program, Sem.run]
  have hzv : ∀ w : World, (zeroValue e).run P w = .ok z w := fun w => by simp [zeroValue, Sem.run_bind, hti, hz1, Result.andThen, Sem.run]
  have hsize : ∀ w : World, (sizeOf e).run P w = .ok ie.size w := fun w => sizeOf_run he w
  have hfill : ∀ cells : Array Value, cells.size = vs.length * ie.size → Instr.fill (fun i => some (i * ie.size, ie.size)) cells (vs.zipIdx.map fun p => (p.2, p.1)) = some (vs.flatMap fun v => v.cells.toList).toArray := fun cells hc => by
    have := fill_seq (sz := ie.size) vs vs.length 0 cells hv (by omega) hc
    rw [this]
    rw [List.drop_eq_nil_of_le (by simp only [Array.length_toList]; rw [hc, Nat.zero_add]; exact Nat.le_refl _)]
    simp
  have hnot : ¬ 16777216 < vs.length * ie.size := by omega
  by_cases h00 : vs.length * ie.size = 0
  · have hf := hfill ((Array.range (vs.length * ie.size)).map fun _ => default) (by simp)
    simp only [Instr.buildSlice, Sem.run_bind, run_underlying (ht.slc e hk), hsize, Result.andThen_ok, Sem.run_pure, if_pos h00]
    simp [hnot, hf, newRow, newObj, Sem.run_bind, Result.andThen, Sem.run]
  · have hf := hfill ((Array.range (vs.length * ie.size)).map (z.cells[· % z.cells.size]!)) (by simp)
    simp only [Instr.buildSlice, Sem.run_bind, run_underlying (ht.slc e hk), hsize, Result.andThen_ok, Sem.run_pure, if_neg h00, hzv]
    simp [hnot, hzv, hf, newRow, newObj, Sem.run_bind, Result.andThen, Sem.run]

/-- The parts of a slice that is written out, one after the other. -/
def partsOK (n : Nat) (parts : Array (Nat × Operand)) : Bool := Nat.beq parts.toList.length n && parts.toList.zipIdx.all fun p => Nat.beq p.1.1 p.2
def elemsOf (get : Operand → AV) (parts : Array (Nat × Operand)) : List AV := parts.toList.map fun p => get p.2

theorem parts_zip : ∀ (ps : List (Nat × Operand)) (k : Nat), ((ps.zipIdx k).all fun p => Nat.beq p.1.1 p.2) = true → ps.map (fun p => (p.1, ev p.2)) = ((ps.map fun p => ev p.2).zipIdx k).map fun p => (p.2, p.1) := by
  intro ps
  induction ps with
  | nil => intro k _; rfl
  | cons p ps ih =>
    intro k h
    simp only [List.zipIdx_cons, List.all_cons, Bool.and_eq_true] at h
    have h1 := Nat.eq_of_beq_eq_true h.1
    simp only [List.map_cons, List.zipIdx_cons, ih (k + 1) h.2, h1]

def allC (l : List AV) (sz : Nat) : Bool := l.all fun u => isC u && properL (cellsL u) && Nat.beq (lenL (cellsL u)) sz
def allN (l : List AV) : Bool := l.all fun u => men noK u

theorem build_run {o : Oper} {t e n : Nat} {i ie : TI} {parts : Array (Nat × Operand)} (ho : o.op = .buildSlice t n parts) (ht : TOK P t i) (hk : i.k = .slc e) (he : TOK P e ie) (hp : partsOK n parts = true) (hc : allC (elemsOf get parts) ie.size = true) (hn : n * ie.size ≤ 16777216)
    (h1 : ∀ k, (ν k).oneCell' = true) (hx : ∀ x, x ∈ o.op.operands → R Z w (get x) ν true [ev x] ∧ men μ (get x) = true) :
    ∃ cells : Array Value, (execOp ev o).run P w = .ok (.value (.slice (some ⟨w.heap.size, 0, none⟩) n n)) (w.alloc (.cells cells e)) ∧ cells.size = n * ie.size ∧ n = (elemsOf get parts).length ∧
      ∀ j, j < n → ∃ es, R Z w (cellsL ((elemsOf get parts).getD j .any)) ν true es ∧ men μ ((elemsOf get parts).getD j .any) = true ∧ es.length = ie.size ∧ ∀ (q : Nat) c, es[q]? = some c → cells[0 + (j * ie.size + q)]? = some c := by
  simp only [partsOK, Bool.and_eq_true] at hp
  obtain ⟨hp1, hp2⟩ := hp
  have hp1 := Nat.eq_of_beq_eq_true hp1
  have hz := parts_zip (ev := ev) parts.toList 0 hp2
  have hel : ∀ p, p ∈ parts.toList → R Z w (get p.2) ν true [ev p.2] ∧ men μ (get p.2) = true ∧ isC (get p.2) = true ∧ properL (cellsL (get p.2)) = true ∧ lenL (cellsL (get p.2)) = ie.size := by
    intro p hpm
    have := hx p.2 (by rw [ho]; exact List.mem_toArray.2 (List.mem_map.2 ⟨p, hpm, rfl⟩))
    simp only [allC, elemsOf, List.all_eq_true, List.mem_map, Bool.and_eq_true] at hc
    have h3 := hc _ ⟨p, hpm, rfl⟩
    exact ⟨this.1, this.2, h3.1.1, h3.1.2, Nat.eq_of_beq_eq_true h3.2⟩
  have hvs : ∀ v, v ∈ parts.toList.map (fun p => ev p.2) → v.cells.size = ie.size := by
    intro v hv
    obtain ⟨p, hpm, rfl⟩ := List.mem_map.1 hv
    obtain ⟨a1, a2, a3, a4, a5⟩ := hel p hpm
    have := R_len a4 (cells_val h1 a3 a1)
    rw [← a5, ← this]; simp
  have hlen : (parts.toList.map fun p => ev p.2).length = n := by simpa using hp1
  have hrun := run_buildSlice (P := P) ht hk he (parts.toList.map fun p => ev p.2) hvs (by rw [hlen]; exact hn) w
  rw [hlen, ← hz] at hrun
  have hpm : (parts.map fun p => (p.1, ev p.2)) = (parts.toList.map fun p => (p.1, ev p.2)).toArray := by apply Array.ext'; simp
  refine ⟨_, ?_, by rw [List.size_toArray, flat_len _ hvs, hlen], by simp [elemsOf]; simpa using hp1.symm, fun j hj => ?_⟩
  · rw [← hpm] at hrun
    simp [execOp, ho, Sem.run_bind, hrun, Result.andThen, Sem.run]
  · have hjl : j < parts.toList.length := by omega
    obtain ⟨a1, a2, a3, a4, a5⟩ := hel parts.toList[j] (List.getElem_mem hjl)
    have hrc := cells_val h1 a3 a1
    have hln := R_len a4 hrc
    have hgd : (elemsOf get parts).getD j .any = get (parts.toList[j]).2 := by
      simp only [elemsOf, List.getD_eq_getElem?_getD, List.getElem?_map, List.getElem?_eq_getElem hjl]; rfl
    rw [hgd]
    refine ⟨_, hrc, a2, by omega, fun q c hq => ?_⟩
    have hqs : q < ie.size := by have := (List.getElem?_eq_some_iff.1 hq).1; omega
    have := flat_at (sz := ie.size) _ hvs j q (ev (parts.toList[j]).2) (by simp only [List.getElem?_map, List.getElem?_eq_getElem hjl]; rfl) hqs
    rw [Nat.zero_add, List.getElem?_toArray, this]
    exact hq

/-- Nobody will write it. -/
theorem opsem_buildR {o : Oper} {t e n : Nat} {i ie : TI} {parts : Array (Nat × Operand)} (ho : o.op = .buildSlice t n parts) (ht : TOK P t i) (hk : i.k = .slc e) (he : TOK P e ie) (hp : partsOK n parts = true) (hc : allC (elemsOf get parts) ie.size = true) (hf : allN (elemsOf get parts) = true) (hsp : 0 < ie.size) (hn : n * ie.size ≤ 16777216)
    {v : AV} (hv : ∀ (Z : Nat → Prop) (w : World) (ν : Nat → Value) (y : Value), roRow Z w ie.size n (fun j es => men noK ((elemsOf get parts).getD j .any) = true ∧ R Z w (cellsL ((elemsOf get parts).getD j .any)) nu0 true es) [y] → R Z w v ν true [y]) (hm : men noK v = true) : OpSem P o get v [] [] none :=
  ⟨fun K Z ν w ev μ rs h1 hg hzk hkl hx hrd hkn => by
    obtain ⟨cells, hrun, hsz, hnl, hel⟩ := build_run (P := P) ho ht hk he hp hc hn h1 hx
    have hs := step_alloc (Z := Z) hkl (.cells cells e)
    have hzb : ∀ b, Z b → (w.alloc (.cells cells e)).heap[b]? = w.heap[b]? := fun b hb => alloc_old _ (hkl b (hzk b hb))
    refine ⟨_, _, ν, fun b => Z b ∨ b = w.heap.size, .inl hrun, ⟨hs.ext, fun _ h => .inl h, fun b hb => hb.imp id (fun e hK => by have := hkl b hK; omega)⟩, fun _ _ => rfl, h1, ?_, hv _ _ _ _ ?_, men_free hm, fun b hb => ?_⟩
    · exact hg.mono (fun _ h => .inl h) hzb (by simp) (fun b hb => by
        rcases hb with h | h | h
        · exact .inl h
        · exact .inl (hzk b h)
        · exact .inr (by omega)) (fun b _ hb => alloc_old _ hb)
    · have hn2 : n ≤ lim := by
        have : n * 1 ≤ n * ie.size := Nat.mul_le_mul_left _ hsp
        simp only [lim]; omega
      refine ⟨_, n, rfl, Nat.le_refl _, hn2, fun h0 => ⟨w.heap.size, 0, rfl, .inr rfl, fun j hj => ?_⟩⟩
      obtain ⟨es, r, m, hl, hcell⟩ := hel j hj
      have hnk : men noK ((elemsOf get parts).getD j .any) = true := by
        simp only [allN, List.all_eq_true] at hf
        exact hf _ (getD_mem_or _ _ _ (by omega))
      exact ⟨es, ⟨hnk, R_free (men_cells hnk) (R_mono (fun _ h => .inl h) hzb r)⟩, hl, fun q c hq => cell_heap (alloc_new _) (hcell q c hq)⟩
    · have : b < w.heap.size + 1 := hb.elim (fun h => by have := hkl b (hzk b h); omega) (fun h => by omega)
      simpa using this⟩

theorem opsem_buildO {o : Oper} {t e n : Nat} {i ie : TI} {parts : Array (Nat × Operand)} (ho : o.op = .buildSlice t n parts) (ht : TOK P t i) (hk : i.k = .slc e) (he : TOK P e ie) (hp : partsOK n parts = true) (hc : allC (elemsOf get parts) ie.size = true) (hsp : 0 < ie.size) (hn : n * ie.size ≤ 16777216) (kn : Nat)
    {B : Blk} (hB : ∀ (Z : Nat → Prop) (w : World) (ν : Nat → Value) (y : Value) (F : Nat → Prop), row w y ie.size n (fun j es => R Z w (cellsL ((elemsOf get parts).getD j .any)) ν true es) F → sat Z w ν y F B) (hm : ∀ μ, (∀ j, j < n → men μ ((elemsOf get parts).getD j .any) = true) → menB μ B) : OpSem P o get (.own kn) [] [(kn, some B)] (some kn) :=
  ⟨fun K Z ν w ev μ rs h1 hg hzk hkl hx hrd hkn => by
    have hk2 := hkn kn rfl
    obtain ⟨cells, hrun, hsz, hnl, hel⟩ := build_run (P := P) ho ht hk he hp hc hn h1 hx
    have hn2 : n ≤ lim := by
      have : n * 1 ≤ n * ie.size := Nat.mul_le_mul_left _ hsp
      simp only [lim]; omega
    have hzb : ∀ b, Z b → (w.alloc (.cells cells e)).heap[b]? = w.heap[b]? := fun b hb => alloc_old _ (hkl b (hzk b hb))
    refine ⟨_, _, upN ν kn (.slice (some ⟨w.heap.size, 0, none⟩) n n), Z, .inl hrun, step_alloc hkl _, upN_ext hk2, upN_one h1 rfl, ?_, ?_, addK_new, fun b hb => by have := hkl b (hzk b hb); simp; omega⟩
    · rw [un_self hzk]
      refine grs_new (F := fun y => y = w.heap.size) hg hzk hkl hk2 (by simp) (fun y hy => alloc_old _ hy) (hB _ _ _ _ _ (.inr ⟨w.heap.size, 0, n, cells, e, rfl, Nat.le_refl _, hn2, alloc_new _, by omega, fun _ => Iff.rfl, fun j hj => ?_⟩)) (hm _ fun j hj => ?_) (fun y hy => by subst hy; simp)
      · obtain ⟨es, r, m, hl, hcell⟩ := hel j hj
        exact ⟨es, R_nu (upN_ext hk2) (men_cells m) (R_mono (fun _ h => h) hzb r), hl, hcell⟩
      · obtain ⟨es, r, m, _⟩ := hel j hj
        exact men_le addK_le m
    · show [_] = [_]; rw [upN_same]⟩

def collI : List AV → Option (List Int)
  | [] => some []
  | .int .i64 n :: t => match collI t with | some l => some (n :: l) | none => none
  | _ => none
def collB : List AV → Option (List Bool)
  | [] => some []
  | .bool b :: t => match collB t with | some l => some (b :: l) | none => none
  | _ => none
def collII : List AV → Option (List (List Int))
  | [] => some []
  | .roI x :: t => match collII t with | some l => some (x :: l) | none => none
  | _ => none

theorem collI_ok : ∀ {l : List AV} {xs : List Int}, collI l = some xs → l = xs.map (.int .i64)
  | [], xs, h => by simp only [collI, Option.some.injEq] at h; subst h; rfl
  | u :: t, xs, h => by
    unfold collI at h
    split at h
    · rename_i e; cases e
    · rename_i n t' e
      cases e
      split at h
      · rename_i l hl
        simp only [Option.some.injEq] at h
        subst h
        rw [List.map_cons, collI_ok hl]
      · cases h
    · cases h
theorem collB_ok : ∀ {l : List AV} {xs : List Bool}, collB l = some xs → l = xs.map .bool
  | [], xs, h => by simp only [collB, Option.some.injEq] at h; subst h; rfl
  | u :: t, xs, h => by
    unfold collB at h
    split at h
    · rename_i e; cases e
    · rename_i n t' e
      cases e
      split at h
      · rename_i l hl
        simp only [Option.some.injEq] at h
        subst h
        rw [List.map_cons, collB_ok hl]
      · cases h
    · cases h
theorem collII_ok : ∀ {l : List AV} {xs : List (List Int)}, collII l = some xs → l = xs.map .roI
  | [], xs, h => by simp only [collII, Option.some.injEq] at h; subst h; rfl
  | u :: t, xs, h => by
    unfold collII at h
    split at h
    · rename_i e; cases e
    · rename_i n t' e
      cases e
      split at h
      · rename_i l hl
        simp only [Option.some.injEq] at h
        subst h
        rw [List.map_cons, collII_ok hl]
      · cases h
    · cases h

theorem getD_map {α : Type} (f : α → AV) {xs : List α} {j : Nat} {d : α} (h : j < xs.length) : (xs.map f).getD j .any = f (xs.getD j d) := by
  simp [List.getD_eq_getElem?_getD, List.getElem?_eq_getElem h]

theorem one_cell {u : AV} {es : List Value} (hu : cellsL u = .cons u .nil) (h : R Z w (cellsL u) ν true es) : ∃ v, es = [v] ∧ R Z w u ν true [v] := by
  rw [hu] at h
  obtain ⟨v, vs, e, r1, r2⟩ := h
  have : vs = [] := r2
  subst this
  exact ⟨v, e, r1⟩

theorem build_ro {l : List AV} {sz n : Nat} (ha : l.all isAg = true) (hn : n = l.length) : ∀ (Z : Nat → Prop) (w : World) (ν : Nat → Value) (y : Value), roRow Z w sz n (fun j es => men noK (l.getD j .any) = true ∧ R Z w (cellsL (l.getD j .any)) nu0 true es) [y] → R Z w (.ro sz n (fun j => l.getD j .any)) ν true [y] := by
  intro Z w ν y hr
  refine roRow_mono (fun _ h => h) (fun _ _ => rfl) (fun j es hj hh => ?_) hr
  refine ⟨hh.1, ?_⟩
  have hm : l.getD j .any ∈ l := by
    rw [List.getD_eq_getElem?_getD, List.getElem?_eq_getElem (by omega)]
    exact List.getElem_mem _
  have hag := List.all_eq_true.1 ha _ hm
  cases hg : l.getD j .any with
  | agg a =>
    have h2 := hh.2
    rw [hg] at h2
    show R Z w (l.getD j .any) nu0 false es
    rw [hg]
    exact h2
  | _ => rw [hg] at hag; cases hag

theorem build_ro1 {l : List AV} {a : AV} {sz n : Nat} (hl : l = [a]) (ha : l.all isAg = true) (hn : n = l.length) : ∀ (Z : Nat → Prop) (w : World) (ν : Nat → Value) (y : Value), roRow Z w sz n (fun j es => men noK (l.getD j .any) = true ∧ R Z w (cellsL (l.getD j .any)) nu0 true es) [y] → R Z w (.ro sz n (fun _ => a)) ν true [y] := by
  intro Z w ν y hr
  refine roRow_mono (fun _ h => h) (fun _ _ => rfl) (fun j es hj hh => ?_) (build_ro ha hn Z w ν y hr)
  have hj0 : j = 0 := by rw [hn, hl] at hj; simpa using hj
  subst hj0 hl
  exact hh

theorem build_roI {l : List AV} {xs : List Int} (h : collI l = some xs) {n : Nat} (hn : n = l.length) : ∀ (Z : Nat → Prop) (w : World) (ν : Nat → Value) (y : Value), roRow Z w 1 n (fun j es => men noK (l.getD j .any) = true ∧ R Z w (cellsL (l.getD j .any)) nu0 true es) [y] → R Z w (.roI xs) ν true [y] := by
  intro Z w ν y hr
  have hl := collI_ok h
  subst hl
  have hlen : n = xs.length := by simpa using hn
  subst hlen
  refine roRow_mono (fun _ h => h) (fun _ _ => rfl) (fun j es hj hh => ?_) hr
  have hh := hh.2
  rw [getD_map (AV.int .i64) (d := 0) hj] at hh
  obtain ⟨v, rfl, r⟩ := one_cell rfl hh
  rw [intAt, ← one1 r]
theorem build_roB {l : List AV} {xs : List Bool} (h : collB l = some xs) {n : Nat} (hn : n = l.length) : ∀ (Z : Nat → Prop) (w : World) (ν : Nat → Value) (y : Value), roRow Z w 1 n (fun j es => men noK (l.getD j .any) = true ∧ R Z w (cellsL (l.getD j .any)) nu0 true es) [y] → R Z w (.roB xs) ν true [y] := by
  intro Z w ν y hr
  have hl := collB_ok h
  subst hl
  have hlen : n = xs.length := by simpa using hn
  subst hlen
  refine roRow_mono (fun _ h => h) (fun _ _ => rfl) (fun j es hj hh => ?_) hr
  have hh := hh.2
  rw [getD_map AV.bool (d := false) hj] at hh
  obtain ⟨v, rfl, r⟩ := one_cell rfl hh
  rw [boolAt, ← one1 r]
theorem build_roII {l : List AV} {xs : List (List Int)} (h : collII l = some xs) {n : Nat} (hn : n = l.length) : ∀ (Z : Nat → Prop) (w : World) (ν : Nat → Value) (y : Value), roRow Z w 1 n (fun j es => men noK (l.getD j .any) = true ∧ R Z w (cellsL (l.getD j .any)) nu0 true es) [y] → R Z w (.roII xs) ν true [y] := by
  intro Z w ν y hr
  have hl := collII_ok h
  subst hl
  have hlen : n = xs.length := by simpa using hn
  subst hlen
  refine roRow_mono (fun _ h => h) (fun _ _ => rfl) (fun j es hj hh => ?_) hr
  have hh := hh.2
  rw [getD_map AV.roI (d := []) hj] at hh
  obtain ⟨v, rfl, r⟩ := one_cell rfl hh
  exact r
theorem build_ints {l : List AV} {xs : List Int} (h : collI l = some xs) {n : Nat} (hn : n = l.length) : ∀ (Z : Nat → Prop) (w : World) (ν : Nat → Value) (y : Value) (F : Nat → Prop), row w y 1 n (fun j es => R Z w (cellsL (l.getD j .any)) ν true es) F → sat Z w ν y F (.ints xs) := by
  intro Z w ν y F hr
  have hl := collI_ok h
  subst hl
  have hlen : n = xs.length := by simpa using hn
  subst hlen
  refine row_mono (fun _ _ => rfl) (fun j es hj hh => ?_) hr
  rw [getD_map (AV.int .i64) (d := 0) hj] at hh
  obtain ⟨v, rfl, r⟩ := one_cell rfl hh
  rw [intAt, ← one1 r]
theorem build_rowsR {l : List AV} {xs : List (List Int)} (h : collII l = some xs) {n : Nat} (hn : n = l.length) : ∀ (Z : Nat → Prop) (w : World) (ν : Nat → Value) (y : Value) (F : Nat → Prop), row w y 1 n (fun j es => R Z w (cellsL (l.getD j .any)) ν true es) F → sat Z w ν y F (.rowsR xs) := by
  intro Z w ν y F hr
  have hl := collII_ok h
  subst hl
  have hlen : n = xs.length := by simpa using hn
  subst hlen
  refine row_mono (fun _ _ => rfl) (fun j es hj hh => ?_) hr
  rw [getD_map AV.roI (d := []) hj] at hh
  obtain ⟨v, rfl, r⟩ := one_cell rfl hh
  exact r
end

end Go.Proofs.Ytgminhedbeblpaa.Cal
