/- Own texts of the proof, merged, in order. -/
import Derived.Test.YtbcghiagomkadaaS4
set_option linter.unusedVariables false
set_option linter.unusedSimpArgs false
namespace Go.Proofs.Ytbcghiagomkadaa.Cal
open Go
section
variable {P : Program} {K Z : Nat → Prop} {ν : Nat → Value} {w : World} {get : Operand → AV} {ev : Operand → Value} {μ : Nat → Bool} {rs : Rs} {tb : Nat → Option TI}
theorem flat_at {sz : Nat} : ∀ (vs : List Value), (∀ v, v ∈ vs → v.cells.size = sz) → ∀ (j i : Nat) (v : Value), vs[j]? = some v → i < sz → (vs.flatMap fun v => v.cells.toList)[j * sz + i]? = v.cells.toList[i]? := by
  intro vs
  induction vs with
  | nil => intro _ j i v h; simp at h
  | cons u vs ih =>
    intro hv j i v h hi
    have hu : u.cells.toList.length = sz := by simpa using hv u List.mem_cons_self
    rw [List.flatMap_cons]
    cases j with
    | zero =>
      simp only [List.getElem?_cons_zero, Option.some.injEq] at h
      subst h
      rw [Nat.zero_mul, Nat.zero_add, List.getElem?_append_left (by omega)]
    | succ j =>
      rw [List.getElem?_append_right (by rw [Nat.succ_mul]; omega)]
      have : (j + 1) * sz + i - u.cells.toList.length = j * sz + i := by rw [Nat.succ_mul]; omega
      rw [this]
      exact ih (fun v hv' => hv v (List.mem_cons_of_mem _ hv')) j i v h hi
theorem flat_len {sz : Nat} : ∀ (vs : List Value), (∀ v, v ∈ vs → v.cells.size = sz) → (vs.flatMap fun v => v.cells.toList).length = vs.length * sz := by
  intro vs
  induction vs with
  | nil => intro _; simp
  | cons u vs ih =>
    intro hv
    have hu : u.cells.toList.length = sz := by simpa using hv u List.mem_cons_self
    rw [List.flatMap_cons, List.length_append, ih (fun v hv' => hv v (List.mem_cons_of_mem _ hv')), List.length_cons, Nat.succ_mul]
    omega
theorem run_buildSlice {t e : Nat} {i ie : TI} (ht : TOK P t i) (hk : i.k = .slc e) (he : TOK P e ie) (vs : List Value) (hv : ∀ v, v ∈ vs → v.cells.size = ie.size) (hn : vs.length * ie.size ≤ 16777216) (w : World) :
    (Instr.buildSlice t vs.length (vs.zipIdx.map fun p => (p.2, p.1)).toArray).run P w = .ok (.slice (some ⟨w.heap.size, 0, none⟩) vs.length vs.length) (w.alloc (.cells (vs.flatMap fun v => v.cells.toList).toArray e)) := by
  obtain ⟨inf, hi1, hi2, hi3, z, hz1, hzs, _, _, hz2⟩ := he.info
  have hti : ∀ w : World, (typeInfo e).run P w = .ok inf w := fun w => by simp [typeInfo, Sem.run_bind, hi1, Result.andThen, program, Sem.run]
  have hzv : ∀ w : World, (zeroValue e).run P w = .ok z w := fun w => by simp [zeroValue, Sem.run_bind, hti, hz1, Result.andThen, Sem.run]
  have hsize : ∀ w : World, (sizeOf e).run P w = .ok ie.size w := fun w => Zb2 he w
  have hfill : ∀ cells : Array Value, cells.size = vs.length * ie.size → Instr.fill (fun i => some (i * ie.size, ie.size)) cells (vs.zipIdx.map fun p => (p.2, p.1)) = some (vs.flatMap fun v => v.cells.toList).toArray := fun cells hc => by
    have := fill_seq (sz := ie.size) vs vs.length 0 cells hv (by omega) hc
    rw [this]
    rw [List.drop_eq_nil_of_le (by simp only [Array.length_toList]; rw [hc, Nat.zero_add]; exact Nat.le_refl _)]
    simp
  have hnot : ¬ 16777216 < vs.length * ie.size := by omega
  by_cases h00 : vs.length * ie.size = 0
  · have hf := hfill ((Array.range (vs.length * ie.size)).map fun _ => default) (by simp)
    simp only [Instr.buildSlice, Sem.run_bind, run_underlying (ht.slc e hk), hsize, Result.andThen_ok, Sem.run_pure, if_pos h00]
    simp [hnot, hf, newRow, newObj, Sem.run_bind, Result.andThen, Sem.run]
  · have hf := hfill ((Array.range (vs.length * ie.size)).map (z.cells[· % z.cells.size]!)) (by simp)
    simp only [Instr.buildSlice, Sem.run_bind, run_underlying (ht.slc e hk), hsize, Result.andThen_ok, Sem.run_pure, if_neg h00, hzv]
    simp [hnot, hzv, hf, newRow, newObj, Sem.run_bind, Result.andThen, Sem.run]
/-- The parts of a slice that is written out, one after the other. -/
def partsOK (n : Nat) (parts : Array (Nat × Operand)) : Bool := Nat.beq parts.toList.length n && parts.toList.zipIdx.all fun p => Nat.beq p.1.1 p.2
def elemsOf (get : Operand → AV) (parts : Array (Nat × Operand)) : List AV := parts.toList.map fun p => get p.2
theorem parts_zip : ∀ (ps : List (Nat × Operand)) (k : Nat), ((ps.zipIdx k).all fun p => Nat.beq p.1.1 p.2) = true → ps.map (fun p => (p.1, ev p.2)) = ((ps.map fun p => ev p.2).zipIdx k).map fun p => (p.2, p.1) := by
  intro ps
  induction ps with
  | nil => intro k _; rfl
  | cons p ps ih =>
    intro k h
    simp only [List.zipIdx_cons, List.all_cons, Bool.and_eq_true] at h
    have h1 := Nat.eq_of_beq_eq_true h.1
    simp only [List.map_cons, List.zipIdx_cons, ih (k + 1) h.2, h1]
def allC (l : List AV) (sz : Nat) : Bool := l.all fun u => isC u && properL (cellsL u) && Nat.beq (lenL (cellsL u)) sz
def allN (l : List AV) : Bool := l.all fun u => men noK u
theorem build_run {o : Oper} {t e n : Nat} {i ie : TI} {parts : Array (Nat × Operand)} (ho : o.op = .buildSlice t n parts) (ht : TOK P t i) (hk : i.k = .slc e) (he : TOK P e ie) (hp : partsOK n parts = true) (hc : allC (elemsOf get parts) ie.size = true) (hn : n * ie.size ≤ 16777216)
    (h1 : ∀ k, (ν k).oneCell' = true) (hx : ∀ x, x ∈ o.op.operands → R Z w (get x) ν true [ev x] ∧ men μ (get x) = true) :
    ∃ cells : Array Value, (execOp ev o).run P w = .ok (.value (.slice (some ⟨w.heap.size, 0, none⟩) n n)) (w.alloc (.cells cells e)) ∧ cells.size = n * ie.size ∧ n = (elemsOf get parts).length ∧
      ∀ j, j < n → ∃ es, R Z w (cellsL ((elemsOf get parts).getD j .any)) ν true es ∧ men μ ((elemsOf get parts).getD j .any) = true ∧ es.length = ie.size ∧ ∀ (q : Nat) c, es[q]? = some c → cells[0 + (j * ie.size + q)]? = some c := by
  simp only [partsOK, Bool.and_eq_true] at hp
  obtain ⟨hp1, hp2⟩ := hp
  have hp1 := Nat.eq_of_beq_eq_true hp1
  have hz := parts_zip (ev := ev) parts.toList 0 hp2
  have hel : ∀ p, p ∈ parts.toList → R Z w (get p.2) ν true [ev p.2] ∧ men μ (get p.2) = true ∧ isC (get p.2) = true ∧ properL (cellsL (get p.2)) = true ∧ lenL (cellsL (get p.2)) = ie.size := by
    intro p hpm
    have := hx p.2 (by rw [ho]; exact List.mem_toArray.2 (List.mem_map.2 ⟨p, hpm, rfl⟩))
    simp only [allC, elemsOf, List.all_eq_true, List.mem_map, Bool.and_eq_true] at hc
    have h3 := hc _ ⟨p, hpm, rfl⟩
    exact ⟨this.1, this.2, h3.1.1, h3.1.2, Nat.eq_of_beq_eq_true h3.2⟩
  have hvs : ∀ v, v ∈ parts.toList.map (fun p => ev p.2) → v.cells.size = ie.size := by
    intro v hv
    obtain ⟨p, hpm, rfl⟩ := List.mem_map.1 hv
    obtain ⟨a1, a2, a3, a4, a5⟩ := hel p hpm
    have := Zfq a4 (Zda h1 a3 a1)
    rw [← a5, ← this]; simp
  have hlen : (parts.toList.map fun p => ev p.2).length = n := by simpa using hp1
  have hrun := run_buildSlice (P := P) ht hk he (parts.toList.map fun p => ev p.2) hvs (by rw [hlen]; exact hn) w
  rw [hlen, ← hz] at hrun
  have hpm : (parts.map fun p => (p.1, ev p.2)) = (parts.toList.map fun p => (p.1, ev p.2)).toArray := by apply Array.ext'; simp
  refine ⟨_, ?_, by rw [List.size_toArray, flat_len _ hvs, hlen], by simp [elemsOf]; simpa using hp1.symm, fun j hj => ?_⟩
  · rw [← hpm] at hrun
    simp [execOp, ho, Sem.run_bind, hrun, Result.andThen, Sem.run]
  · have hjl : j < parts.toList.length := by omega
    obtain ⟨a1, a2, a3, a4, a5⟩ := hel parts.toList[j] (List.getElem_mem hjl)
    have hrc := Zda h1 a3 a1
    have hln := Zfq a4 hrc
    have hgd : (elemsOf get parts).getD j .any = get (parts.toList[j]).2 := by
      simp only [elemsOf, List.getD_eq_getElem?_getD, List.getElem?_map, List.getElem?_eq_getElem hjl]; rfl
    rw [hgd]
    refine ⟨_, hrc, a2, by omega, fun q c hq => ?_⟩
    have hqs : q < ie.size := by have := (List.getElem?_eq_some_iff.1 hq).1; omega
    have := flat_at (sz := ie.size) _ hvs j q (ev (parts.toList[j]).2) (by simp only [List.getElem?_map, List.getElem?_eq_getElem hjl]; rfl) hqs
    rw [Nat.zero_add, List.getElem?_toArray, this]
    exact hq
/-- Nobody will write it. -/
theorem Zci {o : Oper} {t e n : Nat} {i ie : TI} {parts : Array (Nat × Operand)} (ho : o.op = .buildSlice t n parts) (ht : TOK P t i) (hk : i.k = .slc e) (he : TOK P e ie) (hp : partsOK n parts = true) (hc : allC (elemsOf get parts) ie.size = true) (hf : allN (elemsOf get parts) = true) (hsp : 0 < ie.size) (hn : n * ie.size ≤ 16777216)
    {v : AV} (hv : ∀ (Z : Nat → Prop) (w : World) (ν : Nat → Value) (y : Value), roRow Z w ie.size n (fun j es => men noK ((elemsOf get parts).getD j .any) = true ∧ R Z w (cellsL ((elemsOf get parts).getD j .any)) nu0 true es) [y] → R Z w v ν true [y]) (hm : men noK v = true) : OpSem P o get v [] [] none :=
  ⟨fun K Z ν w ev μ rs h1 hg hzk hkl hx hrd hkn => by
    obtain ⟨cells, hrun, hsz, hnl, hel⟩ := build_run (P := P) ho ht hk he hp hc hn h1 hx
    have hs := Zcq (Z := Z) hkl (.cells cells e)
    have hzb : ∀ b, Z b → (w.alloc (.cells cells e)).heap[b]? = w.heap[b]? := fun b hb => Zbw _ (hkl b (hzk b hb))
    refine ⟨_, _, ν, fun b => Z b ∨ b = w.heap.size, .inl hrun, ⟨hs.ext, fun _ h => .inl h, fun b hb => hb.imp id (fun e hK => by have := hkl b hK; omega)⟩, fun _ _ => rfl, h1, ?_, hv _ _ _ _ ?_, Zbr hm, fun b hb => ?_⟩
    · exact hg.mono (fun _ h => .inl h) hzb (by simp) (fun b hb => by
        rcases hb with h | h | h
        · exact .inl h
        · exact .inl (hzk b h)
        · exact .inr (by omega)) (fun b _ hb => Zbw _ hb)
    · have hn2 : n ≤ lim := by
        have : n * 1 ≤ n * ie.size := Nat.mul_le_mul_left _ hsp
        simp only [lim]; omega
      refine ⟨_, n, rfl, Nat.le_refl _, hn2, fun h0 => ⟨w.heap.size, 0, rfl, .inr rfl, fun j hj => ?_⟩⟩
      obtain ⟨es, r, m, hl, hcell⟩ := hel j hj
      have hnk : men noK ((elemsOf get parts).getD j .any) = true := by
        simp only [allN, List.all_eq_true] at hf
        exact hf _ (getD_mem_or _ _ _ (by omega))
      exact ⟨es, ⟨hnk, Zcl (Zce hnk) (Zbk (fun _ h => .inl h) hzb r)⟩, hl, fun q c hq => Zcx (Zck _) (hcell q c hq)⟩
    · have : b < w.heap.size + 1 := hb.elim (fun h => by have := hkl b (hzk b h); omega) (fun h => by omega)
      simpa using this⟩
theorem Zdm {o : Oper} {t e n : Nat} {i ie : TI} {parts : Array (Nat × Operand)} (ho : o.op = .buildSlice t n parts) (ht : TOK P t i) (hk : i.k = .slc e) (he : TOK P e ie) (hp : partsOK n parts = true) (hc : allC (elemsOf get parts) ie.size = true) (hsp : 0 < ie.size) (hn : n * ie.size ≤ 16777216) (kn : Nat)
    {B : Blk} (hB : ∀ (Z : Nat → Prop) (w : World) (ν : Nat → Value) (y : Value) (F : Nat → Prop), row w y ie.size n (fun j es => R Z w (cellsL ((elemsOf get parts).getD j .any)) ν true es) F → sat Z w ν y F B) (hm : ∀ μ, (∀ j, j < n → men μ ((elemsOf get parts).getD j .any) = true) → menB μ B) : OpSem P o get (.own kn) [] [(kn, some B)] (some kn) :=
  ⟨fun K Z ν w ev μ rs h1 hg hzk hkl hx hrd hkn => by
    have hk2 := hkn kn rfl
    obtain ⟨cells, hrun, hsz, hnl, hel⟩ := build_run (P := P) ho ht hk he hp hc hn h1 hx
    have hn2 : n ≤ lim := by
      have : n * 1 ≤ n * ie.size := Nat.mul_le_mul_left _ hsp
      simp only [lim]; omega
    have hzb : ∀ b, Z b → (w.alloc (.cells cells e)).heap[b]? = w.heap[b]? := fun b hb => Zbw _ (hkl b (hzk b hb))
    refine ⟨_, _, upN ν kn (.slice (some ⟨w.heap.size, 0, none⟩) n n), Z, .inl hrun, Zcq hkl _, Zb0 hk2, Zcs h1 rfl, ?_, ?_, Zbx, fun b hb => by have := hkl b (hzk b hb); simp; omega⟩
    · rw [Zbq hzk]
      refine Zea (F := fun y => y = w.heap.size) hg hzk hkl hk2 (by simp) (fun y hy => Zbw _ hy) (hB _ _ _ _ _ (.inr ⟨w.heap.size, 0, n, cells, e, rfl, Nat.le_refl _, hn2, Zck _, by omega, fun _ => Iff.rfl, fun j hj => ?_⟩)) (hm _ fun j hj => ?_) (fun y hy => by subst hy; simp)
      · obtain ⟨es, r, m, hl, hcell⟩ := hel j hj
        exact ⟨es, R_nu (Zb0 hk2) (Zce m) (Zbk (fun _ h => h) hzb r), hl, hcell⟩
      · obtain ⟨es, r, m, _⟩ := hel j hj
        exact Zc2 Zby m
    · show [_] = [_]; rw [upN_same]⟩
def collI : List AV → Option (List Int)
  | [] => some []
  | .int .i64 n :: t => match collI t with | some l => some (n :: l) | none => none
  | _ => none
def collB : List AV → Option (List Bool)
  | [] => some []
  | .bool b :: t => match collB t with | some l => some (b :: l) | none => none
  | _ => none
def collII : List AV → Option (List (List Int))
  | [] => some []
  | .roI x :: t => match collII t with | some l => some (x :: l) | none => none
  | _ => none
theorem Ze6 : ∀ {l : List AV} {xs : List Int}, collI l = some xs → l = xs.map (.int .i64)
  | [], xs, h => by simp only [collI, Option.some.injEq] at h; subst h; rfl
  | u :: t, xs, h => by
    unfold collI at h
    split at h
    · rename_i e; cases e
    · rename_i n t' e
      cases e
      split at h
      · rename_i l hl
        simp only [Option.some.injEq] at h
        subst h
        rw [List.map_cons, Ze6 hl]
      · cases h
    · cases h
theorem Zgm : ∀ {l : List AV} {xs : List Bool}, collB l = some xs → l = xs.map .bool
  | [], xs, h => by simp only [collB, Option.some.injEq] at h; subst h; rfl
  | u :: t, xs, h => by
    unfold collB at h
    split at h
    · rename_i e; cases e
    · rename_i n t' e
      cases e
      split at h
      · rename_i l hl
        simp only [Option.some.injEq] at h
        subst h
        rw [List.map_cons, Zgm hl]
      · cases h
    · cases h
theorem Zeo : ∀ {l : List AV} {xs : List (List Int)}, collII l = some xs → l = xs.map .roI
  | [], xs, h => by simp only [collII, Option.some.injEq] at h; subst h; rfl
  | u :: t, xs, h => by
    unfold collII at h
    split at h
    · rename_i e; cases e
    · rename_i n t' e
      cases e
      split at h
      · rename_i l hl
        simp only [Option.some.injEq] at h
        subst h
        rw [List.map_cons, Zeo hl]
      · cases h
    · cases h
theorem Zek {α : Type} (f : α → AV) {xs : List α} {j : Nat} {d : α} (h : j < xs.length) : (xs.map f).getD j .any = f (xs.getD j d) := by
  simp [List.getD_eq_getElem?_getD, List.getElem?_eq_getElem h]
theorem Zei {u : AV} {es : List Value} (hu : cellsL u = .cons u .nil) (h : R Z w (cellsL u) ν true es) : ∃ v, es = [v] ∧ R Z w u ν true [v] := by
  rw [hu] at h
  obtain ⟨v, vs, e, r1, r2⟩ := h
  have : vs = [] := r2
  subst this
  exact ⟨v, e, r1⟩
theorem build_ro {l : List AV} {sz n : Nat} (ha : l.all isAg = true) (hn : n = l.length) : ∀ (Z : Nat → Prop) (w : World) (ν : Nat → Value) (y : Value), roRow Z w sz n (fun j es => men noK (l.getD j .any) = true ∧ R Z w (cellsL (l.getD j .any)) nu0 true es) [y] → R Z w (.ro sz n (fun j => l.getD j .any)) ν true [y] := by
  intro Z w ν y hr
  refine Zbf (fun _ h => h) (fun _ _ => rfl) (fun j es hj hh => ?_) hr
  refine ⟨hh.1, ?_⟩
  have hm : l.getD j .any ∈ l := by
    rw [List.getD_eq_getElem?_getD, List.getElem?_eq_getElem (by omega)]
    exact List.getElem_mem _
  have hag := List.all_eq_true.1 ha _ hm
  cases hg : l.getD j .any with
  | agg a =>
    have h2 := hh.2
    rw [hg] at h2
    show R Z w (l.getD j .any) nu0 false es
    rw [hg]
    exact h2
  | _ => rw [hg] at hag; cases hag
theorem build_ro1 {l : List AV} {a : AV} {sz n : Nat} (hl : l = [a]) (ha : l.all isAg = true) (hn : n = l.length) : ∀ (Z : Nat → Prop) (w : World) (ν : Nat → Value) (y : Value), roRow Z w sz n (fun j es => men noK (l.getD j .any) = true ∧ R Z w (cellsL (l.getD j .any)) nu0 true es) [y] → R Z w (.ro sz n (fun _ => a)) ν true [y] := by
  intro Z w ν y hr
  refine Zbf (fun _ h => h) (fun _ _ => rfl) (fun j es hj hh => ?_) (build_ro ha hn Z w ν y hr)
  have hj0 : j = 0 := by rw [hn, hl] at hj; simpa using hj
  subst hj0 hl
  exact hh
theorem build_roI {l : List AV} {xs : List Int} (h : collI l = some xs) {n : Nat} (hn : n = l.length) : ∀ (Z : Nat → Prop) (w : World) (ν : Nat → Value) (y : Value), roRow Z w 1 n (fun j es => men noK (l.getD j .any) = true ∧ R Z w (cellsL (l.getD j .any)) nu0 true es) [y] → R Z w (.roI xs) ν true [y] := by
  intro Z w ν y hr
  have hl := Ze6 h
  subst hl
  have hlen : n = xs.length := by simpa using hn
  subst hlen
  refine Zbf (fun _ h => h) (fun _ _ => rfl) (fun j es hj hh => ?_) hr
  have hh := hh.2
  rw [Zek (AV.int .i64) (d := 0) hj] at hh
  obtain ⟨v, rfl, r⟩ := Zei rfl hh
  rw [intAt, ← one1 r]
theorem build_roB {l : List AV} {xs : List Bool} (h : collB l = some xs) {n : Nat} (hn : n = l.length) : ∀ (Z : Nat → Prop) (w : World) (ν : Nat → Value) (y : Value), roRow Z w 1 n (fun j es => men noK (l.getD j .any) = true ∧ R Z w (cellsL (l.getD j .any)) nu0 true es) [y] → R Z w (.roB xs) ν true [y] := by
  intro Z w ν y hr
  have hl := Zgm h
  subst hl
  have hlen : n = xs.length := by simpa using hn
  subst hlen
  refine Zbf (fun _ h => h) (fun _ _ => rfl) (fun j es hj hh => ?_) hr
  have hh := hh.2
  rw [Zek AV.bool (d := false) hj] at hh
  obtain ⟨v, rfl, r⟩ := Zei rfl hh
  rw [boolAt, ← one1 r]
theorem build_roII {l : List AV} {xs : List (List Int)} (h : collII l = some xs) {n : Nat} (hn : n = l.length) : ∀ (Z : Nat → Prop) (w : World) (ν : Nat → Value) (y : Value), roRow Z w 1 n (fun j es => men noK (l.getD j .any) = true ∧ R Z w (cellsL (l.getD j .any)) nu0 true es) [y] → R Z w (.roII xs) ν true [y] := by
  intro Z w ν y hr
  have hl := Zeo h
  subst hl
  have hlen : n = xs.length := by simpa using hn
  subst hlen
  refine Zbf (fun _ h => h) (fun _ _ => rfl) (fun j es hj hh => ?_) hr
  have hh := hh.2
  rw [Zek AV.roI (d := []) hj] at hh
  obtain ⟨v, rfl, r⟩ := Zei rfl hh
  exact r
theorem build_ints {l : List AV} {xs : List Int} (h : collI l = some xs) {n : Nat} (hn : n = l.length) : ∀ (Z : Nat → Prop) (w : World) (ν : Nat → Value) (y : Value) (F : Nat → Prop), row w y 1 n (fun j es => R Z w (cellsL (l.getD j .any)) ν true es) F → sat Z w ν y F (.ints xs) := by
  intro Z w ν y F hr
  have hl := Ze6 h
  subst hl
  have hlen : n = xs.length := by simpa using hn
  subst hlen
  refine Za8 (fun _ _ => rfl) (fun j es hj hh => ?_) hr
  rw [Zek (AV.int .i64) (d := 0) hj] at hh
  obtain ⟨v, rfl, r⟩ := Zei rfl hh
  rw [intAt, ← one1 r]
theorem build_rowsR {l : List AV} {xs : List (List Int)} (h : collII l = some xs) {n : Nat} (hn : n = l.length) : ∀ (Z : Nat → Prop) (w : World) (ν : Nat → Value) (y : Value) (F : Nat → Prop), row w y 1 n (fun j es => R Z w (cellsL (l.getD j .any)) ν true es) F → sat Z w ν y F (.rowsR xs) := by
  intro Z w ν y F hr
  have hl := Zeo h
  subst hl
  have hlen : n = xs.length := by simpa using hn
  subst hlen
  refine Za8 (fun _ _ => rfl) (fun j es hj hh => ?_) hr
  rw [Zek AV.roI (d := []) hj] at hh
  obtain ⟨v, rfl, r⟩ := Zei rfl hh
  exact r
end
end Go.Proofs.Ytbcghiagomkadaa.Cal
namespace Go.Proofs.Ytbcghiagomkadaa.Cal
open Go
section
variable {P : Program} {K Z : Nat → Prop} {ν : Nat → Value} {w : World} {get : Operand → AV} {ev : Operand → Value} {μ : Nat → Bool} {rs : Rs} {tb : Nat → Option TI}
theorem lko_two {k1 k2 k : Nat} {b1 b2 : Option Blk} : lko [(k1, b1), (k2, b2)] k = if k = k1 then some b1 else if k = k2 then some b2 else none := by
  simp only [lko]
  by_cases h1 : k = k1
  · subst h1; simp [Nat.beq_refl]
  · have e1 : Nat.beq k k1 = false := by cases hb : Nat.beq k k1 with | false => rfl | true => exact absurd (Nat.eq_of_beq_eq_true hb) h1
    rw [e1, if_neg h1]
    by_cases h2 : k = k2
    · subst h2; simp [Nat.beq_refl]
    · have e2 : Nat.beq k k2 = false := by cases hb : Nat.beq k k2 with | false => rfl | true => exact absurd (Nat.eq_of_beq_eq_true hb) h2
      rw [e2, if_neg h2]
theorem updL_two {rs' : Rs} {k1 k2 : Nat} {b1 b2 : Option Blk} : updL rs' [(k1, b1), (k2, b2)] = fun j => if j = k1 then b1 else if j = k2 then b2 else rs' j := by
  funext j
  simp only [updL, lko_two]
  by_cases h1 : j = k1
  · rw [if_pos h1, if_pos h1]
  · rw [if_neg h1, if_neg h1]
    by_cases h2 : j = k2
    · rw [if_pos h2, if_pos h2]
    · rw [if_neg h2, if_neg h2]
theorem opsem_take {o : Oper} {t k ix : Nat} {i : TI} {a : Operand} {xss : List (List Int)} (ho : o.op = .load t a) (ht : TOK P t i) (hs : i.isStr = false) (ha : get a = .adr k 1 ix 0) (hix : ix < xss.length) (kn : Nat) :
    OpSem P o get (.own kn) [(k, .rows xss)] [(kn, some (.ints (xss.getD ix []))), (k, some (.rowsH xss ix kn))] (some kn) :=
  ⟨fun K Z ν w ev μ rs h1 hg hzk hkl hx hrd hkn => by
    have hk2 := hkn kn rfl
    obtain ⟨ra, ma⟩ := hx a (by rw [ho]; simp [Op.operands])
    rw [ha] at ra
    obtain ⟨b, f, hb, ea⟩ := ra
    have ea := one1 ea
    obtain ⟨Ft, h⟩ := hg
    obtain ⟨u1, m1, ⟨ys, G, F0, hrow, hat, hF⟩, hK, hd⟩ := h k _ (hrd (k, .rows xss) (by simp))
    obtain ⟨b', f', cap, hx', es, rfl, _, hc⟩ := Zdt hrow hix
    rw [hx'] at hb
    simp only [baseOf, Option.some.injEq, Prod.mk.injEq] at hb
    obtain ⟨rfl, rfl⟩ := hb
    have hcell : w.cell? ⟨b', f' + (ix * 1 + 0), none⟩ = some (ys ix) := hc 0 (ys ix) rfl
    obtain ⟨rrow, rone, rap, rdis⟩ := hat ix hix trivial
    have hne : k ≠ kn := by rintro rfl; rw [u1] at hk2; cases hk2
    have hload := Zcj (P := P) ht (fun fs hk => by simp [TI.isStr, hk] at hs) hcell
    refine ⟨ys ix, w, upN ν kn (ys ix), Z, .inl ?_, Step.refl K Z w, Zb0 hk2, Zcs h1 rone, ?_, ?_, Zbx, fun b hb => hkl b (hzk b hb)⟩
    · simp only [execOp, ho, ea, Sem.run_bind, hload, Result.andThen_ok, Sem.run_pure]
    · rw [Zbq hzk, updL_two]
      refine ⟨fun j => if j = kn then G ix else if j = k then (fun y => F0 y ∨ ∃ j, j < xss.length ∧ j ≠ ix ∧ G j y) else Ft j, fun j B hj => ?_⟩
      have sub1 : ∀ y, G ix y → Ft k y := fun y hy => (hF y).2 (.inr ⟨ix, hix, hy⟩)
      have sub2 : ∀ y, (F0 y ∨ ∃ j, j < xss.length ∧ j ≠ ix ∧ G j y) → Ft k y := fun y hy => (hF y).2 (hy.imp id fun ⟨j, a, _, c⟩ => ⟨j, a, c⟩)
      have apart : ∀ y, G ix y → ¬ (F0 y ∨ ∃ j, j < xss.length ∧ j ≠ ix ∧ G j y) := by
        rintro y hy (h | ⟨j, a, b, c⟩)
        · exact rap y hy h
        · exact rdis j a trivial b y hy c
      by_cases h1 : j = kn
      · subst h1
        simp only [if_pos rfl] at hj ⊢
        cases hj
        rw [upN_same]
        refine ⟨Zbx, trivial, rrow, fun y hy => hK y (sub1 y hy), fun k' b' hne' hk' y hy => ?_⟩
        rw [if_neg (Ne.symm hne')] at hk' ⊢
        split
        · exact apart y hy
        · rw [if_neg ‹_›] at hk'; exact hd k' b' (Ne.symm ‹_›) hk' y (sub1 y hy)
      · simp only [if_neg h1] at hj ⊢
        rw [Zdj h1]
        by_cases h2 : j = k
        · subst h2
          simp only [if_pos rfl] at hj ⊢
          cases hj
          refine ⟨Zby _ u1, Zbx, ⟨ys, G, F0, hrow, fun j hj hji => ?_, upN_same.symm, fun y => Iff.rfl⟩, fun y hy => hK y (sub2 y hy), fun k' b' hne' hk' y hy => ?_⟩
          · obtain ⟨a1, a2, a3, a4⟩ := hat j hj trivial
            exact ⟨a1, a2, a3, fun i hi _ hne => a4 i hi trivial hne⟩
          · split
            · exact fun h => apart y h hy
            · rw [if_neg ‹_›, if_neg (Ne.symm hne')] at hk'
              rw [if_neg (Ne.symm hne')]
              exact hd k' b' hne' hk' y (sub2 y hy)
        · simp only [if_neg h2] at hj ⊢
          obtain ⟨g1, g2, g3, g4, g5⟩ := h j B hj
          refine ⟨Zby _ g1, Zcu Zby g2, Zdi (Zb0 hk2) g2 g3, g4, fun k' b' hne' hk' y hy => ?_⟩
          split
          · exact fun h => g5 k _ h2 (hrd (k, .rows xss) (by simp)) y hy (sub1 y h)
          · rw [if_neg ‹_›] at hk'
            split
            · exact fun h => g5 k _ h2 (hrd (k, .rows xss) (by simp)) y hy (sub2 y h)
            · rw [if_neg ‹_›] at hk'
              exact g5 k' b' hne' hk' y hy
    · show [_] = [_]; rw [upN_same]⟩
theorem opsem_put {o : Oper} {t k k1 k2 ix : Nat} {i : TI} {a x : Operand} {xss : List (List Int)} {zs : List Int} (ho : o.op = .store t a x) (ht : TOK P t i) (hsz : i.size = 1) (ha : get a = .adr k 1 ix 0) (hx2 : get x = .own k2) (hix : ix < xss.length) (hne2 : Nat.beq k k2 = false) :
    OpSem P o get .any [(k, .rowsH xss ix k1), (k2, .ints zs)] [(k, some (.rows (xss.set ix zs))), (k2, none)] none :=
  ⟨fun K Z ν w ev μ rs h1 hg hzk hkl hx hrd hkn => by
    have hne2 : k ≠ k2 := by rintro rfl; rw [Nat.beq_refl] at hne2; cases hne2
    obtain ⟨ra, ma⟩ := hx a (by rw [ho]; simp [Op.operands])
    obtain ⟨rx, mx⟩ := hx x (by rw [ho]; simp [Op.operands])
    rw [ha] at ra
    rw [hx2] at rx
    obtain ⟨b, f, hb, ea⟩ := ra
    have ea := one1 ea
    have ex := one1 rx
    obtain ⟨Ft, h⟩ := hg
    have r1 := hrd (k, .rowsH xss ix k1) (by simp)
    have r2 := hrd (k2, .ints zs) (by simp)
    obtain ⟨u1, m1, ⟨ys, G, F0, hrow, hat, _, hF⟩, hK, hd⟩ := h k _ r1
    obtain ⟨u2, m2, s2, hK2, hd2⟩ := h k2 _ r2
    have hone : (ν k2).oneCell' = true := h1 k2
    obtain ⟨b', f', hb', hbF, hrun, hw⟩ := row_set (P := P) hrow hix (o := 0) (vs := [ν k2]) (by simp) (by intro v hv; simp at hv; subst hv; exact hone)
    rw [hb] at hb'
    simp only [Option.some.injEq, Prod.mk.injEq] at hb'
    obtain ⟨rfl, rfl⟩ := hb'
    obtain ⟨w1, w2, w3, w4, w5, w6⟩ := hw _ rfl
    generalize hwd : w.setRow b _ = w' at hrun w1 w2 w3 w4 w5 w6
    have hbk : Ft k b := (hF b).2 (.inl hbF)
    have hbK : ¬ K b := (hK b hbk).1
    have hzw : ∀ y, Z y → w'.heap[y]? = w.heap[y]? := fun y hy => w1 y (fun e => hbK (hzk b (e ▸ hy)))
    have hcells : (ev x).cells = #[ν k2] := by rw [ex]; exact (Zc8 (u := .own k2) (Z := Z) (w := w) (ν := ν) h1 rfl rfl rfl).2
    refine ⟨undef, w', ν, Z, .inr ⟨Zfc ho ?_, rfl⟩, ⟨⟨w3, w4, w5, by omega, fun y hy => w1 y (fun e => hbK (e ▸ hy))⟩, fun _ h => h, fun _ h => .inl h⟩, fun _ _ => rfl, h1, ?_, ⟨_, rfl⟩, rfl, fun y hy => by rw [w2]; exact hkl y (hzk y hy)⟩
    · rw [ea]
      exact Zff ht (by rw [hcells, hsz]; rfl) _ (by rw [hcells]; exact hrun)
    · rw [Zbq hzk, updL_two]
      have hold : ∀ y, y ≠ b → w'.heap[y]? = w.heap[y]? := w1
      refine ⟨fun j => if j = k then (fun y => F0 y ∨ ∃ j, j < xss.length ∧ (if j = ix then Ft k2 y else G j y)) else if j = k2 then (fun _ => False) else Ft j, fun j B hj => ?_⟩
      have sub : ∀ y, (F0 y ∨ ∃ j, j < xss.length ∧ (if j = ix then Ft k2 y else G j y)) → Ft k y ∨ Ft k2 y := by
        rintro y (h | ⟨j, a, c⟩)
        · exact .inl ((hF y).2 (.inl h))
        · split at c
          · exact .inr c
          · exact .inl ((hF y).2 (.inr ⟨j, a, ‹_›, c⟩))
      have hb2 : ¬ Ft k2 b := hd k2 _ hne2 r2 b hbk
      by_cases hjk : j = k
      · subst hjk
        simp only [if_pos rfl] at hj ⊢
        cases hj
        refine ⟨u1, trivial, ⟨fun j => if j = ix then ν k2 else ys j, fun j y => if j = ix then Ft k2 y else G j y, F0, ?_, ?_, fun y => by rw [List.length_set, if_pos trivial]⟩, fun y hy => ?_, fun k' b' hne' hk' y hy => ?_⟩
        · rw [List.length_set]
          refine Za8 (fun _ _ => rfl) (fun j es hj => ?_) w6
          rintro ⟨es0, rfl, _, e3⟩
          rw [e3]
          dsimp only
          by_cases hji : j = ix
          · rw [if_pos hji, if_pos hji]; rfl
          · rw [if_neg hji, if_neg hji]
        · intro j hj _
          rw [List.length_set] at hj
          rw [Zch hix]
          by_cases hji : j = ix
          · subst hji
            simp only [if_pos rfl]
            refine ⟨Za8 (fun y hy => hold y (fun e => hb2 (e ▸ hy))) (fun _ _ _ h => h) s2, hone, fun y hy hf => hd k2 _ hne2 r2 y ((hF y).2 (.inl hf)) hy, fun i hi _ hij y hy => ?_⟩
            rw [if_neg hij]
            rw [List.length_set] at hi
            exact fun hgi => hd k2 _ hne2 r2 y ((hF y).2 (.inr ⟨i, hi, hij, hgi⟩)) hy
          · simp only [if_neg hji]
            obtain ⟨a1, a2, a3, a4⟩ := hat j hj hji
            refine ⟨Za8 (fun y hy => hold y (fun e => a3 y hy (e ▸ hbF))) (fun _ _ _ h => h) a1, a2, a3, fun i hi _ hij y hy => ?_⟩
            rw [List.length_set] at hi
            by_cases hii : i = ix
            · subst hii
              rw [if_pos rfl]
              exact fun hf => hd k2 _ hne2 r2 y ((hF y).2 (.inr ⟨j, hj, hji, hy⟩)) hf
            · rw [if_neg hii]; exact a4 i hi hii hij y hy
        · rcases sub y hy with h | h
          · exact ⟨(hK y h).1, by rw [w2]; exact (hK y h).2⟩
          · exact ⟨(hK2 y h).1, by rw [w2]; exact (hK2 y h).2⟩
        · rw [if_neg (Ne.symm hne')] at hk' ⊢
          split
          · exact fun h => h
          · rw [if_neg ‹_›] at hk'
            rcases sub y hy with h | h
            · exact hd k' b' hne' hk' y h
            · exact hd2 k' b' (Ne.symm ‹_›) hk' y h
      · simp only [if_neg hjk] at hj ⊢
        by_cases hj2 : j = k2
        · subst hj2; simp at hj
        · simp only [if_neg hj2] at hj ⊢
          obtain ⟨g1, g2, g3, g4, g5⟩ := h j B hj
          refine ⟨g1, g2, Zbo (fun _ h => h) hzw (fun y hy => hold y (fun e => g5 k _ hjk r1 y hy (e ▸ hbk))) g3, fun y hy => ⟨(g4 y hy).1, by rw [w2]; exact (g4 y hy).2⟩, fun k' b' hne' hk' y hy => ?_⟩
          split
          · intro hs
            rcases sub y hs with h | h
            · exact g5 k _ hjk r1 y hy h
            · exact g5 k2 _ hj2 r2 y hy h
          · rw [if_neg ‹_›] at hk'
            split
            · exact fun h => h
            · rw [if_neg ‹_›] at hk'; exact g5 k' b' hne' hk' y hy⟩
end
end Go.Proofs.Ytbcghiagomkadaa.Cal
namespace Go.Proofs.Ytbcghiagomkadaa.Cal
open Go
structure EvR where
  val : AV
  rd : List (Nat × Blk)
  wr : List (Nat × Option Blk)
  kn : Option Nat
  ob : Prop
def strip : AV → AV
  | .whn _ u => u
  | u => u
def gd : AV → Prop
  | .whn g _ => g = true
  | _ => True
def isNilS : Value → Bool
  | .slice none 0 0 => true
  | _ => false
def makeB (ie : TI) (alt : Bool) (n : Nat) : Option Blk :=
  match ie.zero with
  | .int .i64 z => if z = 0 then (if Nat.beq ie.size 1 then some (.ints (List.replicate n 0)) else none) else none
  | .bool b => match b with | false => if Nat.beq ie.size 1 then some (.bools (List.replicate n false)) else none | true => none
  | .cst v => if isNilS v && Nat.beq ie.size 1 then (match alt with | true => some (.rowsR (List.replicate n [])) | false => some (.rows (List.replicate n []))) else none
  | .agg l => some (.avs ie.size n (fun _ => .agg l))
  | _ => none
def stBox (i : TI) (k : Nat) (u : AV) (off : Nat) (ux : AV) : Option EvR :=
  if isCC ux && properL (cellsL ux) && Nat.beq (lenL (cellsL ux)) i.size && Nat.ble 1 i.size && isV u && properL (cellsL u) && Nat.ble (off + i.size) (lenL (cellsL u)) && (isAg u || !isAg ux) then some ⟨.any, [(k, .box u)], [(k, some (.box (updv u off ux)))], none, True⟩ else none
def evStore (i : TI) (l : List (Nat × Option Blk)) (ua ux : AV) : Option EvR :=
  match ua with
  | .own k => match lkr l k with
    | some (.box u) => stBox i k u 0 ux
    | _ => none
  | .adr k sz ix off => match lkr l k with
    | some (.box u) => match sz, ix with
      | 0, 0 => stBox i k u off ux
      | _, _ => none
    | some (.ints xs) => match sz, off, i.size, ux with
      | 1, 0, 1, .int .i64 n => some ⟨.any, [(k, .ints xs)], [(k, some (.ints (xs.set ix n)))], none, ix < xs.length⟩
      | _, _, _, _ => none
    | some (.bools xs) => match sz, off, i.size, ux with
      | 1, 0, 1, .bool n => some ⟨.any, [(k, .bools xs)], [(k, some (.bools (xs.set ix n)))], none, ix < xs.length⟩
      | _, _, _, _ => none
    | some (.rowsR xs) => match sz, off, i.size, ux with
      | 1, 0, 1, .roI n => some ⟨.any, [(k, .rowsR xs)], [(k, some (.rowsR (xs.set ix n)))], none, ix < xs.length⟩
      | _, _, _, _ => none
    | some (.rowsH xs ih k1) => match sz, off, i.size, ux with
      | 1, 0, 1, .own k2 => match lkr l k2 with
        | some (.ints zs) => if Nat.beq k k2 then none else some ⟨.any, [(k, .rowsH xs ih k1), (k2, .ints zs)], [(k, some (.rows (xs.set ix zs))), (k2, none)], none, ix = ih ∧ ix < xs.length⟩
        | _ => none
      | _, _, _, _ => none
    | some (.avs s n f) => if Nat.beq s sz && isCC ux && properL (cellsL ux) && Nat.beq (lenL (cellsL ux)) i.size && Nat.ble 1 i.size && Nat.ble (off + i.size) sz then
        some ⟨.any, [(k, .avs s n f)], [(k, some (.avs s n (fun j => if j = ix then updv (f ix) off ux else f j)))], none, ix < n ∧ isV (f ix) = true ∧ properL (cellsL (f ix)) = true ∧ lenL (cellsL (f ix)) = s ∧ (isAg (f ix) || !isAg ux) = true⟩ else none
    | _ => none
  | _ => none
def srcI (l : List (Nat × Option Blk)) : AV → Option (List Int × List (Nat × Blk))
  | .roI ys => some (ys, [])
  | .own k => match lkr l k with | some (.ints ys) => some (ys, [(k, .ints ys)]) | _ => none
  | _ => none
def srcB (l : List (Nat × Option Blk)) : AV → Option (List Bool × List (Nat × Blk))
  | .roB ys => some (ys, [])
  | .own k => match lkr l k with | some (.bools ys) => some (ys, [(k, .bools ys)]) | _ => none
  | _ => none
def srcR (l : List (Nat × Option Blk)) : AV → Option (List (List Int) × List (Nat × Blk))
  | .roII ys => some (ys, [])
  | .own k => match lkr l k with | some (.rowsR ys) => some (ys, [(k, .rowsR ys)]) | _ => none
  | _ => none
def evApp (l : List (Nat × Option Blk)) (kn : Nat) (ux uy : AV) : Option EvR :=
  match ux with
  | .own k => match lkr l k with
    | some (.ints xs) => match srcI l uy with
      | some (ys, rd) => some ⟨.own kn, (k, .ints xs) :: rd, [(kn, some (.ints (xs ++ ys))), (k, none)], some kn, xs.length + ys.length ≤ 1000000000000⟩
      | none => none
    | some (.bools xs) => match srcB l uy with
      | some (ys, rd) => some ⟨.own kn, (k, .bools xs) :: rd, [(kn, some (.bools (xs ++ ys))), (k, none)], some kn, xs.length + ys.length ≤ 1000000000000⟩
      | none => none
    | some (.rowsR xs) => match srcR l uy with
      | some (ys, rd) => some ⟨.own kn, (k, .rowsR xs) :: rd, [(kn, some (.rowsR (xs ++ ys))), (k, none)], some kn, xs.length + ys.length ≤ 1000000000000⟩
      | none => none
    | _ => none
  | .cst v => match isNilS v with
    | true => match srcI l uy with
      | some (ys, rd) => some ⟨.own kn, rd, [(kn, some (.ints ys))], some kn, ys.length ≤ 1000000000000⟩
      | none => match srcB l uy with
        | some (ys, rd) => some ⟨.own kn, rd, [(kn, some (.bools ys))], some kn, ys.length ≤ 1000000000000⟩
        | none => match srcR l uy with
          | some (ys, rd) => some ⟨.own kn, rd, [(kn, some (.rowsR ys))], some kn, ys.length ≤ 1000000000000⟩
          | none => none
    | false => none
  | _ => none
/-- append of one struct to a slice of structs. -/
def evAppS (sz : Nat) (l : List (Nat × Option Blk)) (kn : Nat) (ux uy : AV) : Option EvR :=
  match uy with
  | .ro s 1 g => if Nat.beq s sz && isAg (g 0) && isCC (g 0) && men noK (g 0) then (match ux with
    | .own k => match lkr l k with
      | some (.avs s' n f) => if Nat.beq s' sz then some ⟨.own kn, [(k, .avs s' n f)], [(kn, some (.avs s' (n + 1) (fun j => if j < n then f j else g 0))), (k, none)], some kn, n + 1 ≤ 1000000000 ∧ ∀ j, j < n → men noK (f j) = true⟩ else none
      | _ => none
    | .cst v => if isNilS v then some ⟨.own kn, [], [(kn, some (.avs s 1 (fun _ => g 0)))], some kn, True⟩ else none
    | _ => none) else none
  | _ => none
def isBoolK : TK → Bool
  | .bool => true
  | _ => false
def evBuildS (ie : TI) (kn : Nat) (alt : Bool) (n : Nat) (es : List AV) : Option EvR :=
  if alt && isBoolK ie.k && Nat.beq ie.size 1 && Nat.beq n 0 then some ⟨.own kn, [], [(kn, some (.bools []))], some kn, True⟩
  else if allC es ie.size && Nat.beq ie.size 1 && Nat.ble n 1000000 then
    (match collI es with
    | some xs => match alt with
      | true => some ⟨.own kn, [], [(kn, some (.ints xs))], some kn, True⟩
      | false => some ⟨.roI xs, [], [], none, True⟩
    | none => match collB es with
      | some xs => some ⟨.roB xs, [], [], none, True⟩
      | none => match collII es with
        | some xs => match alt with
          | true => some ⟨.own kn, [], [(kn, some (.rowsR xs))], some kn, True⟩
          | false => some ⟨.roII xs, [], [], none, True⟩
        | none => none) else if allC es ie.size && allN es && es.all isAg && Nat.ble 2 ie.size && Nat.ble ie.size 16 && Nat.ble n 1000000 then (match es with
    | [a] => some ⟨.ro ie.size n (fun _ => a), [], [], none, True⟩
    | es => some ⟨.ro ie.size n (fun j => es.getD j .any), [], [], none, True⟩) else none
def evPick (uc ua ub : AV) : Option EvR :=
  match strip uc with
  | .bool p => match strip ua, strip ub with
    | .bool a, .bool b => some ⟨.bool (bif p then a else b), [], [], none, gd uc ∧ (p = true → gd ua) ∧ (p = false → gd ub)⟩
    | .int .i64 a, .int .i64 b => some ⟨.int .i64 (bif p then a else b), [], [], none, gd uc ∧ (p = true → gd ua) ∧ (p = false → gd ub)⟩
    | _, _ => none
  | _ => none
def evTake (i : TI) (l : List (Nat × Option Blk)) (kn : Nat) (u : AV) : Option EvR :=
  match u with
  | .adr k sz ix off => match lkr l k with
    | some (.rows xs) => match sz, off, i.isStr with
      | 1, 0, false => some ⟨.own kn, [(k, .rows xs)], [(kn, some (.ints (xs.getD ix []))), (k, some (.rowsH xs ix kn))], some kn, ix < xs.length⟩
      | _, _, _ => none
    | _ => none
  | _ => none
def ofP : Evp → Option EvR
  | some (v, rd, ob) => some ⟨v, rd, [], none, ob⟩
  | none => none
def evx (tb : Nat → Option TI) (get : Operand → AV) (l : List (Nat × Option Blk)) (kn : Nat) (alt : Bool) (op : Op) : Option EvR :=
  match op with
  | .alloc t => match tb t with
    | some i => some ⟨.own kn, [], [(kn, some (.box i.zero))], some kn, True⟩
    | none => none
  | .box t x => if isC (get x) then (if !alt && men noK (get x) then some ⟨.rop (get x), [], [], none, True⟩ else some ⟨.own kn, [], [(kn, some (.box (get x)))], some kn, True⟩) else none
  | .makeSlice t a c => match tb t with
    | some i => match i.k with
      | .slc e => match tb e with
        | some ie => match get a, get c with
          | .int .i64 n, .int .i64 n' => if Nat.ble ie.bytes 1000 && Nat.ble 1 ie.size then (match makeB ie alt n.toNat with
            | some B => some ⟨.own kn, [], [(kn, some B)], some kn, n' = n ∧ 0 ≤ n ∧ n ≤ 1000000000⟩
            | none => none) else none
          | _, _ => none
        | none => none
      | _ => none
    | none => none
  | .store t a x => match tb t with
    | some i => evStore i l (get a) (get x)
    | none => none
  | .buildSlice t n parts => match tb t with
    | some i => match i.k with
      | .slc e => match tb e with
        | some ie => if partsOK n parts then evBuildS ie kn alt n (elemsOf get parts) else none
        | none => none
      | _ => none
    | none => none
  | .pick c a b => evPick (get c) (get a) (get b)
  | .load t a => match tb t with
    | some i => match evTake i l kn (get a) with
      | some r => some r
      | none => ofP (evLoad i l (get a))
    | none => none
  | .call c => match c.callee with
    | .builtin .append => match c.args.toList, c.argTypes.toList with
      | [x, y], [t, t'] => if Nat.beq t t' then (match tb t with
        | some i => match i.k with
          | .slc e => match tb e with
            | some ie => if Nat.beq ie.size 1 && Nat.ble ie.bytes 100 then evApp l kn (get x) (get y) else if Nat.ble 2 ie.size && Nat.ble ie.bytes 1000 then evAppS ie.size l kn (get x) (get y) else none
            | none => none
          | _ => none
        | none => none) else none
      | _, _ => none
    | _ => ofP (evp tb get l (.call c))
  | op => ofP (evp tb get l op)
end Go.Proofs.Ytbcghiagomkadaa.Cal
