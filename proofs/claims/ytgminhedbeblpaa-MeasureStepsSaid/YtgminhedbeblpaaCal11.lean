/- What single operations come to, over abstract values: stores and appends. -/
import Derived.Test.YtgminhedbeblpaaCal10
set_option linter.unusedVariables false
set_option linter.unusedSimpArgs false
namespace Go.Proofs.Ytgminhedbeblpaa.Cal
open Go

section
variable {P : Program} {K Z : Nat → Prop} {ν : Nat → Value} {w : World} {get : Operand → AV} {ev : Operand → Value} {μ : Nat → Bool} {rs : Rs} {tb : Nat → Option TI}

theorem updL_twice {rs : Rs} {k : Nat} {b : Blk} : updL rs [(k, some b), (k, none)] = updL rs [(k, some b)] := by
  funext j
  simp only [updL, lko]
  cases Nat.beq j k <;> rfl

theorem cellsV {u : AV} {v : Value} (h1 : ∀ k, (ν k).oneCell' = true) (hc : isC u = true) (h : R Z w u ν true [v]) (hag : isAg u = true → ∀ y, y ∈ v.cells.toList → y.oneCell' = true) : ∀ y, y ∈ v.cells.toList → y.oneCell' = true := by
  intro y hy
  cases hu : isAg u with
  | true => exact hag hu y hy
  | false =>
    obtain ⟨h2, h3⟩ := oneCell_of h1 hc hu h
    rw [h3] at hy
    simp at hy
    rw [hy]; exact h2

/-- A struct's cells are cells. -/
def isCL : AV → Bool
  | .cons h t => isC h && !isAg h && isCL t
  | .nil => true
  | _ => false
def isCC (u : AV) : Bool := match u with | .agg l => isCL l | u => isC u

theorem oneL (h1 : ∀ k, (ν k).oneCell' = true) : ∀ {l : AV} {cs : List Value}, isCL l = true → R Z w l ν true cs → ∀ y, y ∈ cs → y.oneCell' = true := by
  intro l
  induction l with
  | cons a t _ ih =>
    intro cs hc hr y hy
    simp only [isCL, Bool.and_eq_true, Bool.not_eq_true'] at hc
    obtain ⟨v, vs, rfl, r1, r2⟩ := hr
    rcases List.mem_cons.1 hy with rfl | hy
    · exact (oneCell_of h1 hc.1.1 hc.1.2 r1).1
    · exact ih hc.2 r2 y hy
  | nil => intro cs _ hr y hy; rw [show cs = [] from hr] at hy; cases hy
  | _ => intro cs hc; cases hc

theorem isCC_C {u : AV} (h : isCC u = true) : isC u = true := by cases u <;> first | rfl | exact h

theorem oneCC {u : AV} {v : Value} (h1 : ∀ k, (ν k).oneCell' = true) (hc : isCC u = true) (h : R Z w u ν true [v]) : ∀ y, y ∈ v.cells.toList → y.oneCell' = true :=
  cellsV h1 (isCC_C hc) h fun ha y hy => by
    cases u <;> first | (cases ha; done) | skip
    obtain ⟨es, e, r⟩ := h
    obtain rfl := one1 e
    exact oneL h1 hc r y (by simpa [Value.cells] using hy)

theorem run_store {t : Nat} {i : TI} (ht : TOK P t i) {v : Value} (hl : v.cells.size = i.size) (a : Addr) {w' : World} (h : (storeCells a v.cells.toList).run P w = .ok () w') : (Instr.storeAt t (.pointer (some a)) v).run P w = .ok () w' := by
  simp [Instr.storeAt, Instr.sureAddr, storeVar, Sem.run_bind, sizeOf_run ht, hl, Result.andThen, Sem.run, h]

theorem sem_store {o : Oper} {t : Nat} {a x : Operand} (ho : o.op = .store t a x) {w' : World} (h : (Instr.storeAt t (ev a) (ev x)).run P w = .ok () w') : (execOp ev o).run P w = .ok .skip w' := by
  simp [execOp, ho, Sem.run_bind, h, Result.andThen, Sem.run]

/-- A store into an element of a slice of the call's own. -/
theorem opsem_store_row {o : Oper} {t k sz ix off n : Nat} {i : TI} {a x : Operand} (ho : o.op = .store t a x) (ht : TOK P t i) (ha : get a = .adr k sz ix off) (hc : isCC (get x) = true) (hp : properL (cellsL (get x)) = true) (hlen : lenL (cellsL (get x)) = i.size) (hoff : off + i.size ≤ sz) (hix : ix < n)
    {B B' : Blk} (g : (Nat → Prop) → World → (Nat → Value) → Nat → List Value → Prop) (hs : ∀ Z w ν y F, sat Z w ν y F B → row w y sz n (g Z w ν) F)
    (hs' : ∀ (Z : Nat → Prop) (w w' : World) ν y F vs, (∀ b, Z b → w'.heap[b]? = w.heap[b]?) → vs.length = i.size → R Z w' (cellsL (get x)) ν true vs → row w' y sz n (fun j es => ∃ es0, g Z w ν j es0 ∧ es0.length = sz ∧ es = if j = ix then es0.take off ++ vs ++ es0.drop (off + vs.length) else es0) F → sat Z w' ν y F B')
    (hm' : ∀ μ, menB μ B → men μ (get x) = true → menB μ B') : OpSem P o get .any [(k, B)] [(k, some B')] none :=
  ⟨fun K Z ν w ev μ rs h1 hg hzk hkl hx hrd hkn => by
    obtain ⟨ra, ma⟩ := hx a (by rw [ho]; simp [Op.operands])
    obtain ⟨rx, mx⟩ := hx x (by rw [ho]; simp [Op.operands])
    rw [ha] at ra
    obtain ⟨b, f, hb, ea⟩ := ra
    have ea := one1 ea
    have hk : rs k = some B := hrd (k, B) (by simp)
    obtain ⟨F0, s0, m0, u0, hF0, swap⟩ := grs_swap hg hzk hkl hk
    have hr := R_len hp (cells_val h1 (isCC_C hc) rx)
    have hvs : (ev x).cells.toList.length = i.size := by rw [hr, hlen]
    obtain ⟨b', f', hb', hbF, hrun, hw⟩ := row_set (P := P) (hs _ _ _ _ _ s0) hix (o := off) (vs := (ev x).cells.toList) (by omega) (oneCC h1 hc rx)
    rw [hb] at hb'
    simp only [Option.some.injEq, Prod.mk.injEq] at hb'
    obtain ⟨rfl, rfl⟩ := hb'
    obtain ⟨w1, w2, w3, w4, w5, w6⟩ := hw _ rfl
    generalize hwd : w.setRow b _ = w' at hrun w1 w2 w3 w4 w5 w6
    have hzw : ∀ y, Z y → w'.heap[y]? = w.heap[y]? := fun y hy => w1 y (fun e => (hF0 b hbF).1 (hzk b (e ▸ hy)))
    refine ⟨undef, w', ν, Z, .inr ⟨sem_store ho ?_, rfl⟩, ⟨⟨w3, w4, w5, by omega, fun y hy => w1 y (fun e => (hF0 b hbF).1 (e ▸ hy))⟩, fun _ h => h, fun _ h => .inl h⟩, fun _ _ => rfl, h1, ?_, ⟨_, rfl⟩, rfl, fun y hy => by rw [w2]; exact hkl y (hzk y hy)⟩
    · rw [ea]
      exact run_store ht (by simpa using hvs) _ hrun
    · rw [un_self hzk]
      have := swap w' ν k B' F0 (by omega) (fun y hy _ => w1 y (fun e => hy (e ▸ hbF))) (fun _ _ => rfl) (.inl rfl) (hs' Z w w' ν (ν k) F0 (ev x).cells.toList hzw hvs (R_mono (fun _ h => h) hzw (cells_val h1 (isCC_C hc) rx)) w6)
        (menB_le addK_le (hm' μ m0 mx)) (fun y hy => ⟨.inl hy, by rw [w2]; exact (hF0 y hy).2⟩)
      rw [addK_self u0, updL_twice] at this
      exact this⟩

theorem getD_set {α : Type} {xs : List α} {i j : Nat} {v d : α} (hi : i < xs.length) : (xs.set i v).getD j d = if j = i then v else xs.getD j d := by
  simp only [List.getD_eq_getElem?_getD, List.getElem?_set]
  by_cases h : i = j
  · subst h; simp [hi]
  · simp [h, Ne.symm h]

theorem opsem_store_ints {o : Oper} {t k ix : Nat} {i : TI} {a x : Operand} {n : Int} {xs : List Int} (ho : o.op = .store t a x) (ht : TOK P t i) (hsz : i.size = 1) (ha : get a = .adr k 1 ix 0) (hx : get x = .int .i64 n) (hix : ix < xs.length) :
    OpSem P o get .any [(k, .ints xs)] [(k, some (.ints (xs.set ix n)))] none := by
  refine opsem_store_row (sz := 1) ho ht ha (by rw [hx]; rfl) (by rw [hx]; rfl) (by rw [hx, hsz]; rfl) (by omega) hix (fun _ _ _ => intAt xs) (fun Z w ν y F h => h) ?_ (fun _ _ _ => trivial)
  intro Z w w' ν y F vs hz hl hr hrow
  rw [hx] at hr
  obtain ⟨v, vs', rfl, r1, r2⟩ := hr
  have hv := one1 r1
  have : vs' = [] := r2
  subst this hv
  show row w' y 1 (xs.set ix n).length _ F
  rw [List.length_set]
  refine row_mono (fun _ _ => rfl) (fun j es hj => ?_) hrow
  rintro ⟨es0, e1, e2, e3⟩
  rw [intAt] at e1 ⊢
  rw [getD_set hix]
  by_cases h : j = ix
  · rw [if_pos h] at e3 ⊢; rw [e3, e1]; rfl
  · rw [if_neg h] at e3 ⊢; rw [e3, e1]

theorem opsem_store_bools {o : Oper} {t k ix : Nat} {i : TI} {a x : Operand} {n : Bool} {xs : List Bool} (ho : o.op = .store t a x) (ht : TOK P t i) (hsz : i.size = 1) (ha : get a = .adr k 1 ix 0) (hx : get x = .bool n) (hix : ix < xs.length) :
    OpSem P o get .any [(k, .bools xs)] [(k, some (.bools (xs.set ix n)))] none := by
  refine opsem_store_row (sz := 1) ho ht ha (by rw [hx]; rfl) (by rw [hx]; rfl) (by rw [hx, hsz]; rfl) (by omega) hix (fun _ _ _ => boolAt xs) (fun Z w ν y F h => h) ?_ (fun _ _ _ => trivial)
  intro Z w w' ν y F vs hz hl hr hrow
  rw [hx] at hr
  obtain ⟨v, vs', rfl, r1, r2⟩ := hr
  have hv := one1 r1
  have : vs' = [] := r2
  subst this hv
  show row w' y 1 (xs.set ix n).length _ F
  rw [List.length_set]
  refine row_mono (fun _ _ => rfl) (fun j es hj => ?_) hrow
  rintro ⟨es0, e1, e2, e3⟩
  rw [boolAt] at e1 ⊢
  rw [getD_set hix]
  by_cases h : j = ix
  · rw [if_pos h] at e3 ⊢; rw [e3, e1]; rfl
  · rw [if_neg h] at e3 ⊢; rw [e3, e1]

theorem opsem_store_rowsR {o : Oper} {t k ix : Nat} {i : TI} {a x : Operand} {ys : List Int} {xs : List (List Int)} (ho : o.op = .store t a x) (ht : TOK P t i) (hsz : i.size = 1) (ha : get a = .adr k 1 ix 0) (hx : get x = .roI ys) (hix : ix < xs.length) :
    OpSem P o get .any [(k, .rowsR xs)] [(k, some (.rowsR (xs.set ix ys)))] none := by
  refine opsem_store_row (sz := 1) ho ht ha (by rw [hx]; rfl) (by rw [hx]; rfl) (by rw [hx, hsz]; rfl) (by omega) hix (fun Z w ν j es => R Z w (.roI (xs.getD j [])) ν false es) (fun Z w ν y F h => h) ?_ (fun _ _ _ => trivial)
  intro Z w w' ν y F vs hz hl hr hrow
  rw [hx] at hr
  obtain ⟨v, vs', rfl, r1, r2⟩ := hr
  have : vs' = [] := r2
  subst this
  show row w' y 1 (xs.set ix ys).length _ F
  rw [List.length_set]
  refine row_mono (fun _ _ => rfl) (fun j es hj => ?_) hrow
  rintro ⟨es0, e1, e2, e3⟩
  rw [getD_set hix]
  by_cases h : j = ix
  · rw [if_pos h] at e3 ⊢
    obtain ⟨z, rfl⟩ := List.length_eq_one_iff.1 e2
    rw [e3]; exact r1
  · rw [if_neg h] at e3 ⊢; rw [e3]; exact R_mono (fun _ h => h) hz e1

/-- A part of a variable written anew. -/
def updv (u : AV) (o : Nat) (x : AV) : AV := match u with
  | .agg l => .agg (appL (takeL l o) (appL (cellsL x) (dropL l (o + lenL (cellsL x)))))
  | _ => x

theorem updv_R {u x : AV} {o : Nat} {cs vs : List Value} (hp : properL (cellsL x) = true) (hu : isV u = true) (hpu : properL (cellsL u) = true) (hle : o + lenL (cellsL x) ≤ lenL (cellsL u)) (hne : 0 < lenL (cellsL x)) (hax : isAg u = false → isAg x = false) (hvx : isV x = true)
    (hr : R Z w u ν false cs) (hx : R Z w (cellsL x) ν true vs) : R Z w (updv u o x) ν false (cs.take o ++ vs ++ cs.drop (o + vs.length)) := by
  have hlen := R_len hp hx
  cases u with
  | agg l =>
    rw [hlen, List.append_assoc]
    have hpl : properL l = true := hpu
    exact R_app (properL_take (by simp only [cellsL] at hle; omega)) (R_take hr (by simp only [cellsL] at hle; omega)) (R_app hp hx (R_drop hr hle))
  | _ =>
    have hle : o + lenL (cellsL x) ≤ 1 := hle
    have ho : o = 0 := by omega
    have hl1 : lenL (cellsL x) = 1 := by omega
    subst ho
    have hcs : cs.length = 1 := by
      first
        | exact R_len (l := AV.cons _ AV.nil) rfl (R_cells hu hr)
    have hvl : vs.length = 1 := by omega
    rw [List.take_zero, List.nil_append, List.drop_eq_nil_of_le (by omega), List.append_nil]
    show R Z w x ν false vs
    have ha := hax rfl
    rw [R_leaf ha]
    obtain ⟨v, rfl⟩ := List.length_eq_one_iff.1 hvl
    cases x <;> first | (cases ha; done) | (obtain ⟨v', vs', e, r1, r2⟩ := hx; simp only [List.cons.injEq] at e; obtain ⟨rfl, rfl⟩ := e; exact r1)

theorem men_updv {u x : AV} {o : Nat} (hu : men μ u = true) (hx : men μ x = true) : men μ (updv u o x) = true := by
  cases u with
  | agg l => exact men_app (men_take hu) (men_app (men_cells hx) (men_drop hu))
  | _ => exact hx

/-- A store into a variable, or a field of it. -/
theorem opsem_store_box {o : Oper} {t k off : Nat} {i : TI} {a x : Operand} {u : AV} (ho : o.op = .store t a x) (ht : TOK P t i) (ha : (get a = .own k ∧ off = 0) ∨ get a = .adr k 0 0 off) (hc : isCC (get x) = true) (hp : properL (cellsL (get x)) = true) (hlen : lenL (cellsL (get x)) = i.size) (hpos : 0 < i.size)
    (hu : isV u = true) (hpu : properL (cellsL u) = true) (hle : off + i.size ≤ lenL (cellsL u)) (hax : isAg u = false → isAg (get x) = false) : OpSem P o get .any [(k, .box u)] [(k, some (.box (updv u off (get x))))] none :=
  ⟨fun K Z ν w ev μ rs h1 hg hzk hkl hx hrd hkn => by
    obtain ⟨ra, ma⟩ := hx a (by rw [ho]; simp [Op.operands])
    obtain ⟨rx, mx⟩ := hx x (by rw [ho]; simp [Op.operands])
    have hk : rs k = some (.box u) := hrd (k, .box u) (by simp)
    obtain ⟨F0, s0, m0, u0, hF0, swap⟩ := grs_swap hg hzk hkl hk
    obtain ⟨b, cells, T, hxv, hb, r, hF⟩ := s0
    have hbF : F0 b := (hF b).2 rfl
    have rxc := cells_val h1 (isCC_C hc) rx
    have hr := R_len hp rxc
    have hvs : (ev x).cells.toList.length = i.size := by rw [hr, hlen]
    have hclen : cells.size = lenL (cellsL u) := by simpa using R_len hpu (R_cells hu r)
    have ea : ev a = .pointer (some ⟨b, off, none⟩) := by
      rcases ha with ⟨ha, rfl⟩ | ha
      · rw [ha] at ra; rw [one1 ra, hxv]
      · rw [ha] at ra
        obtain ⟨b', f', hb', e⟩ := ra
        rw [hxv] at hb'
        simp only [baseOf, Option.some.injEq, Prod.mk.injEq] at hb'
        obtain ⟨rfl, rfl⟩ := hb'
        rw [one1 e]; simp
    have hst := run_storeCells_at (P := P) b off T (ev x).cells.toList 0 cells w hb (by omega) (oneCC h1 hc rx)
    simp only [Nat.add_zero] at hst
    have hnew := setRow_heap w b cells (cells.toList.take off ++ (ev x).cells.toList ++ cells.toList.drop (off + (ev x).cells.toList.length)).toArray T (0, 0) hb
    generalize hwd : w.setRow b _ = w' at hst hnew
    have w1 : ∀ y, y ≠ b → w'.heap[y]? = w.heap[y]? := fun y hy => by rw [← hwd]; exact setRow_other w b y _ hy
    have w2 : w'.heap.size = w.heap.size := by rw [← hwd]; simp
    have hzw : ∀ y, Z y → w'.heap[y]? = w.heap[y]? := fun y hy => w1 y (fun e => (hF0 b hbF).1 (hzk b (e ▸ hy)))
    refine ⟨undef, w', ν, Z, .inr ⟨sem_store ho ?_, rfl⟩, ⟨⟨by rw [← hwd]; rfl, by rw [← hwd]; rfl, by rw [← hwd]; rfl, by omega, fun y hy => w1 y (fun e => (hF0 b hbF).1 (e ▸ hy))⟩, fun _ h => h, fun _ h => .inl h⟩, fun _ _ => rfl, h1, ?_, ⟨_, rfl⟩, rfl, fun y hy => by rw [w2]; exact hkl y (hzk y hy)⟩
    · rw [ea]
      exact run_store ht (by simpa using hvs) _ hst
    · rw [un_self hzk]
      have := swap w' ν k (.box (updv u off (get x))) F0 (by omega) (fun y hy _ => w1 y (fun e => hy (e ▸ hbF))) (fun _ _ => rfl) (.inl rfl)
        ⟨b, _, T, hxv, hnew, by
          have := updv_R (o := off) (x := get x) hp hu hpu (by omega) (by omega) hax (isC_V (isCC_C hc)) (R_mono (fun _ h => h) hzw r) (R_mono (fun _ h => h) hzw rxc)
          simpa using this, hF⟩
        (men_le addK_le (men_updv m0 mx)) (fun y hy => ⟨.inl hy, by rw [w2]; exact (hF0 y hy).2⟩)
      rw [addK_self u0, updL_twice] at this
      exact this⟩

/-- A store of a struct, or into a field of one, in a slice of structs. -/
theorem opsem_store_avs {o : Oper} {t k sz ix off n : Nat} {i : TI} {a x : Operand} {f : Nat → AV} (ho : o.op = .store t a x) (ht : TOK P t i) (ha : get a = .adr k sz ix off) (hc : isCC (get x) = true) (hp : properL (cellsL (get x)) = true) (hlen : lenL (cellsL (get x)) = i.size) (hpos : 0 < i.size) (hix : ix < n)
    (hu : isV (f ix) = true) (hpu : properL (cellsL (f ix)) = true) (hsz : lenL (cellsL (f ix)) = sz) (hle : off + i.size ≤ sz) (hax : isAg (f ix) = false → isAg (get x) = false) :
    OpSem P o get .any [(k, .avs sz n f)] [(k, some (.avs sz n (fun j => if j = ix then updv (f ix) off (get x) else f j)))] none := by
  refine opsem_store_row (sz := sz) ho ht ha hc hp hlen hle hix (fun Z w ν j es => R Z w (f j) ν false es) (fun Z w ν y F h => h) ?_ (fun μ hB hm j hj => ?_)
  · intro Z w w' ν y F vs hz hl hr hrow
    refine row_mono (fun _ _ => rfl) (fun j es hj => ?_) hrow
    rintro ⟨es0, e1, e2, e3⟩
    by_cases h : j = ix
    · subst h
      dsimp only
      rw [if_pos rfl] at e3 ⊢
      rw [e3]
      exact updv_R hp hu hpu (by omega) (by omega) hax (isC_V (isCC_C hc)) (R_mono (fun _ h => h) hz e1) hr
    · dsimp only; rw [if_neg h] at e3 ⊢; rw [e3]; exact R_mono (fun _ h => h) hz e1
  · dsimp only
    split
    · exact men_updv (hB ix hix) hm
    · exact hB j hj
end

end Go.Proofs.Ytgminhedbeblpaa.Cal
