/- What the operations on a map from numbers to numbers come to, over abstract values. -/
import Derived.Test.YtgminhedbeblpaaCalC
import Derived.MapKept
set_option linter.unusedVariables false
set_option linter.unusedSimpArgs false
namespace Go.Proofs.Ytgminhedbeblpaa.Cal
open Go

def fnd (k : Int) : List (Int × Int × Nat) → Nat → Option (Nat × Int)
  | [], _ => none
  | e :: t, i => if k = e.1 then some (i, e.2.1) else fnd k t (i + 1)
def mget (k : Int) (es : List (Int × Int × Nat)) : Int := match fnd k es 0 with | some p => p.2 | none => 0
def mhas (k : Int) (es : List (Int × Int × Nat)) : Bool := match fnd k es 0 with | some _ => true | none => false
def mput (k v : Int) (c : Nat) (es : List (Int × Int × Nat)) : List (Int × Int × Nat) := match fnd k es 0 with | some p => es.modify p.1 (fun e => (k, v, e.2.2)) | none => es ++ [(k, v, c)]
def mclk (k : Int) (c : Nat) (es : List (Int × Int × Nat)) : Nat := match fnd k es 0 with | some _ => c | none => c + 1

theorem fnd_some {k : Int} : ∀ {es : List (Int × Int × Nat)} {i : Nat} {p : Nat × Int}, fnd k es i = some p → ∃ j e, p.1 = i + j ∧ es[j]? = some e ∧ e.1 = k ∧ p.2 = e.2.1
  | [], _, _, h => by cases h
  | e :: t, i, p, h => by
    unfold fnd at h
    split at h
    · rename_i hk
      cases h
      exact ⟨0, e, rfl, rfl, hk.symm, rfl⟩
    · obtain ⟨j, e', h1, h2, h3, h4⟩ := fnd_some h
      exact ⟨j + 1, e', by omega, by simpa using h2, h3, h4⟩

section
variable {P : Program} {get : Operand → AV} {l : List (Nat × Option Blk)} {tb : Nat → Option TI}

theorem run_findNow {k : Int} : ∀ {es : List (Int × Int × Nat)} {i : Nat}, Instr.findNow (.int .i64) (.int .i64 k) (es.map ent) i = some ((fnd k es i).map fun p => (p.1, Value.int .i64 p.2))
  | [], _ => rfl
  | e :: t, i => by
    show (match Instr.sameNow (.int .i64) (.int .i64 k) (Value.int .i64 e.1) with | some true => some (some (i, Value.int .i64 e.2.1)) | some false => Instr.findNow (.int .i64) (.int .i64 k) (t.map ent) (i + 1) | none => none) = _
    have h : Instr.sameNow (.int .i64) (.int .i64 k) (Value.int .i64 e.1) = some (k == e.1) := by simp [Instr.sameNow]
    rw [h]
    unfold fnd
    by_cases hk : k = e.1
    · rw [if_pos hk, beq_iff_eq.2 hk]; rfl
    · rw [if_neg hk, beq_eq_false_iff_ne.2 hk]
      exact run_findNow (es := t) (i := i + 1)
theorem run_findKey {kt : Nat} {w : World} {k : Int} {es : List (Int × Int × Nat)} (hk : P.underlying kt = some (.int .i64)) : (Instr.findKey kt (.int .i64 k) (es.map ent)).run P w = .ok ((fnd k es 0).map fun p => (p.1, Value.int .i64 p.2)) w := by
  simp [Instr.findKey, Sem.run_bind, run_underlying hk, Result.andThen, run_findNow, Sem.run]
theorem run_chk {kt : Nat} {w : World} {k : Int} {e : Bool} (hk : P.underlying kt = some (.int .i64)) : (Instr.checkKey e 10000 kt (.int .i64 k)).run P w = .ok () w :=
  MapKept.run_checkKey (k := .int .i64 k) hk (show IntKind.i64 = IntKind.i64 from rfl) e 9999
theorem run_stay {w : World} {k : Int} : (Instr.keyThatStays (.int .i64 k) (.int .i64 k)).run P w = .ok (.int .i64 k) w := by
  simp [Instr.keyThatStays, Instr.sameBits, Sem.run]

theorem opsem_makeMap {o : Oper} {t : Nat} (ho : o.op = .makeMap t none) (kn : Nat) : OpSem P o get (.own kn) [] [(kn, some (.mp [] 0))] (some kn) :=
  ⟨fun K Z ν w ev μ rs h1 hg hzk hkl hx hrd hkn => by
    have hk := hkn kn rfl
    refine ⟨.map (some w.heap.size), w.alloc (.map #[] 0), upN ν kn (.map (some w.heap.size)), Z, .inl ?_, step_alloc hkl _, upN_ext hk, upN_one h1 rfl, ?_, ?_, addK_new, fun b hb => by have := hkl b (hzk b hb); simp; omega⟩
    · simp [execOp, ho, Instr.makeMap, newObj, Sem.run_bind, Result.andThen, Sem.run]
    · rw [un_self hzk]
      exact grs_new (F := fun y => y = w.heap.size) hg hzk hkl hk (by simp) (fun y hy => alloc_old _ hy) ⟨w.heap.size, #[], rfl, alloc_new _, rfl, fun _ => Iff.rfl⟩ trivial (fun y hy => by subst hy; simp)
    · show [_] = [_]; rw [upN_same]⟩

theorem opsem_lookup {o : Oper} {t km c : Nat} {m x : Operand} {ok : Bool} {k : Int} {es : List (Int × Int × Nat)} (ho : o.op = .lookup t m x ok) (ht : MapOK P t) (hm : get m = .own km) (hx : get x = .int .i64 k) :
    OpSem P o get (bif ok then .tup (.cons (.int .i64 (mget k es)) (.cons (.bool (mhas k es)) .nil)) else .int .i64 (mget k es)) [(km, .mp es c)] [] none :=
  opsem_pure fun K Z ν w ev μ rs h1 hg hv hrd => by
    obtain ⟨kt, e, hu, hk, inf, hi, hz⟩ := ht
    obtain ⟨rm, _⟩ := hv m (by rw [ho]; simp [Op.operands])
    obtain ⟨rx, _⟩ := hv x (by rw [ho]; simp [Op.operands])
    rw [hm] at rm
    rw [hx] at rx
    have em := one1 rm
    have ex := one1 rx
    have hb : rs km = some (.mp es c) := hrd (km, .mp es c) (by simp)
    obtain ⟨Ft, hF⟩ := hg
    obtain ⟨_, _, hs, _, _⟩ := hF km _ hb
    obtain ⟨b, arr, hxv, hh, he, _⟩ := hs
    rw [hxv] at em
    have hrun : ∀ (v : Value), (Instr.lookup t (ev m) (ev x) ok).run P w = .ok v w → (execOp ev o).run P w = .ok (.value v) w := fun v h => by
      simp [execOp, ho, Sem.run_bind, h, Result.andThen, Sem.run]
    have hzv : (zeroValue e).run P w = .ok (.int .i64 0) w := by simp [zeroValue, typeInfo, Sem.run_bind, hi, hz, Result.andThen, program, Sem.run]
    have key : (Instr.lookup t (ev m) (ev x) ok).run P w = .ok (if ok then .tuple #[.int .i64 (mget k es), .bool (mhas k es)] else .int .i64 (mget k es)) w := by
      rw [em, ex]
      simp only [Instr.lookup, Sem.run_bind, run_underlying hu, Result.andThen, MapKept.run_getObj_map hh, Sem.run_pure, run_chk hk, he, run_findKey hk]
      unfold mget mhas
      cases hf : fnd k es 0 with
      | none => cases ok <;> simp [Sem.run_bind, hzv, Result.andThen, Sem.run]
      | some p => cases ok <;> simp [Sem.run_bind, Result.andThen, Sem.run]
    cases ok with
    | false => exact ⟨_, hrun _ key, rfl, rfl⟩
    | true => exact ⟨_, hrun _ key, ⟨_, rfl, _, _, rfl, rfl, _, _, rfl, rfl, rfl⟩, rfl⟩

theorem opsem_mapUpdate {o : Oper} {t km c : Nat} {m x y : Operand} {k v : Int} {es : List (Int × Int × Nat)} (ho : o.op = .mapUpdate t m x y) (ht : MapOK P t) (hm : get m = .own km) (hx : get x = .int .i64 k) (hy : get y = .int .i64 v) :
    OpSem P o get .any [(km, .mp es c)] [(km, some (.mp (mput k v c es) (mclk k c es)))] none :=
  ⟨fun K Z ν w ev μ rs h1 hg hzk hkl hv hrd hkn => by
    obtain ⟨kt, e, hu, hk, inf, hi, hz⟩ := ht
    obtain ⟨rm, _⟩ := hv m (by rw [ho]; simp [Op.operands])
    obtain ⟨rx, _⟩ := hv x (by rw [ho]; simp [Op.operands])
    obtain ⟨ry, _⟩ := hv y (by rw [ho]; simp [Op.operands])
    rw [hm] at rm
    rw [hx] at rx
    rw [hy] at ry
    have em := one1 rm
    have ex := one1 rx
    have ey := one1 ry
    have hb : rs km = some (.mp es c) := hrd (km, .mp es c) (by simp)
    obtain ⟨F0, s0, m0, u0, hF0, swap⟩ := grs_swap hg hzk hkl hb
    obtain ⟨b, arr, hxv, hh, he, hF⟩ := s0
    have hbF : F0 b := (hF b).2 rfl
    rw [hxv] at em
    have hbl : b < w.heap.size := (Array.getElem?_eq_some_iff.1 hh).1
    obtain ⟨arr', hrun, he'⟩ : ∃ arr', (Instr.mapUpdate t (ev m) (ev x) (ev y)).run P w = .ok () { w with heap := w.heap.setIfInBounds b (.map arr' (mclk k c es)) } ∧ arr'.toList = (mput k v c es).map ent := by
      rw [em, ex, ey]
      unfold mput mclk
      cases hf : fnd k es 0 with
      | none =>
        refine ⟨arr.push ⟨.int .i64 k, .int .i64 v, c⟩, ?_, ?_⟩
        · simp only [Instr.mapUpdate, Sem.run_bind, run_underlying hu, Result.andThen, MapKept.run_getObj_map hh, run_chk hk, he, run_findKey hk, hf, Option.map_none]
          exact MapKept.run_setObj_map _ hh
        · rw [Array.toList_push, he, List.map_append]; rfl
      | some p =>
        obtain ⟨j, e0, h2, h3, h4, h5⟩ := fnd_some hf
        have hj : p.1 = j := by omega
        refine ⟨arr.modify j (fun e => { e with key := .int .i64 k, val := .int .i64 v }), ?_, ?_⟩
        · have hgk : ((arr[j]?).map (·.key)).getD (.int .i64 k) = .int .i64 k := by
            have : arr[j]? = some (ent e0) := by rw [← Array.getElem?_toList, he, List.getElem?_map, h3]; rfl
            rw [this]; show Value.int .i64 e0.1 = _; rw [h4]
          simp only [Instr.mapUpdate, Sem.run_bind, run_underlying hu, Result.andThen, MapKept.run_getObj_map hh, run_chk hk, he, run_findKey hk, hf, Option.map_some, hj, hgk, run_stay]
          exact MapKept.run_setObj_map _ hh
        · rw [Array.toList_modify, he]
          dsimp only
          rw [hj]
          refine List.ext_getElem? fun i => ?_
          simp only [List.getElem?_modify, List.getElem?_map]
          cases es[i]? with
          | none => rfl
          | some a =>
            by_cases hij : j = i
            · simp [hij, ent]
            · simp [hij]
    have w1 : ∀ y, y ≠ b → ({ w with heap := w.heap.setIfInBounds b (.map arr' (mclk k c es)) } : World).heap[y]? = w.heap[y]? := fun y hy => by
      show (w.heap.setIfInBounds b _)[y]? = _
      rw [Array.getElem?_setIfInBounds, if_neg (Ne.symm hy)]
    have w2 : ({ w with heap := w.heap.setIfInBounds b (.map arr' (mclk k c es)) } : World).heap.size = w.heap.size := by simp
    have w3 : ({ w with heap := w.heap.setIfInBounds b (.map arr' (mclk k c es)) } : World).heap[b]? = some (.map arr' (mclk k c es)) := by
      show (w.heap.setIfInBounds b _)[b]? = _
      rw [Array.getElem?_setIfInBounds, if_pos rfl, if_pos hbl]
    generalize hwd : ({ w with heap := w.heap.setIfInBounds b (.map arr' (mclk k c es)) } : World) = w' at *
    refine ⟨undef, w', ν, Z, .inr ⟨?_, rfl⟩, ⟨⟨by rw [← hwd], by rw [← hwd], by rw [← hwd], by omega, fun y hy => w1 y (fun e => (hF0 b hbF).1 (e ▸ hy))⟩, fun _ h => h, fun _ h => .inl h⟩, fun _ _ => rfl, h1, ?_, ⟨_, rfl⟩, rfl, fun y hy => by rw [w2]; exact hkl y (hzk y hy)⟩
    · simp [execOp, ho, Sem.run_bind, hrun, Result.andThen, Sem.run]
    · rw [un_self hzk]
      have := swap w' ν km (.mp (mput k v c es) (mclk k c es)) F0 (by omega) (fun y hy _ => w1 y (fun e => hy (e ▸ hbF))) (fun _ _ => rfl) (.inl rfl)
        ⟨b, arr', hxv, w3, he', hF⟩ trivial (fun y hy => ⟨.inl hy, by rw [w2]; exact (hF0 y hy).2⟩)
      rw [addK_self u0, updL_twice] at this
      exact this⟩

/-- The operations on maps, as a function of the state. -/
def evMap (tb : Nat → Option TI) (get : Operand → AV) (l : List (Nat × Option Blk)) (kn : Nat) (op : Op) : Option EvR :=
  match op with
  | .makeMap _ none => some ⟨.own kn, [], [(kn, some (.mp [] 0))], some kn, True⟩
  | .lookup t m x ok => match tb t with
    | some i => match i.k with
      | .map => match get m with
        | .own km => match lkr l km with
          | some (.mp es c) => match get x with
            | .int .i64 k => some ⟨bif ok then .tup (.cons (.int .i64 (mget k es)) (.cons (.bool (mhas k es)) .nil)) else .int .i64 (mget k es), [(km, .mp es c)], [], none, True⟩
            | _ => none
          | _ => none
        | _ => none
      | _ => none
    | none => none
  | .mapUpdate t m x y => match tb t with
    | some i => match i.k with
      | .map => match get m with
        | .own km => match lkr l km with
          | some (.mp es c) => match get x, get y with
            | .int .i64 k, .int .i64 v => some ⟨.any, [(km, .mp es c)], [(km, some (.mp (mput k v c es) (mclk k c es)))], none, True⟩
            | _, _ => none
          | _ => none
        | _ => none
      | _ => none
    | none => none
  | _ => none
theorem evMap_ok (htb : TabOK P tb) {o : Oper} {kn : Nat} {r : EvR} (h : evMap tb get l kn o.op = some r) : EvOK P o get l kn r := by
  unfold evMap at h
  split at h
  · rename_i t ho
    simp only [Option.some.injEq] at h
    subst h
    exact ⟨opsem_makeMap ho kn, rdin_nil, .inr rfl⟩
  · rename_i t m x ok ho
    split at h
    · rename_i i hi
      split at h
      · rename_i hk
        split at h
        · rename_i km hm
          split at h
          · rename_i es c hl
            split at h
            · rename_i k hx
              simp only [Option.some.injEq] at h
              subst h
              exact ⟨opsem_lookup ho ((htb t i hi).map hk) hm hx, rdin_one hl, .inl rfl⟩
            · cases h
          · cases h
        · cases h
      · cases h
    · cases h
  · rename_i t m x y ho
    split at h
    · rename_i i hi
      split at h
      · rename_i hk
        split at h
        · rename_i km hm
          split at h
          · rename_i es c hl
            split at h
            · rename_i k v hx hy
              simp only [Option.some.injEq] at h
              subst h
              exact ⟨opsem_mapUpdate ho ((htb t i hi).map hk) hm hx hy, rdin_one hl, .inl rfl⟩
            · cases h
          · cases h
        · cases h
      · cases h
    · cases h
  · cases h
theorem evMap_rd {kn : Nat} {op : Op} {r : EvR} (h : evMap tb get l kn op = some r) : RdIn l r.rd := by
  unfold evMap at h
  (repeat' split at h) <;> first
    | (cases h; done)
    | (simp only [Option.some.injEq] at h; subst h; first | exact rdin_nil | exact rdin_one (by assumption))

/-- A part of a slice that nobody writes, with its room cut off. -/
theorem opsem_cap {o : Oper} {t e : Nat} {i ie : TI} {x y y2 : Operand} {xs : List Int} {z : Int} (ho : o.op = .slice t x none (some y) (some y2)) (ht : TOK P t i) (hk : i.k = .slc e) (he : TOK P e ie) (hsz : ie.size = 1) (hx : get x = .roI xs) (hy : get y = .int .i64 z) (hy2 : get y2 = .int .i64 z) (h0 : 0 ≤ z) (h1 : z ≤ xs.length) :
    OpSem P o get (.roI (xs.take z.toNat)) [] [] none :=
  opsem_pure fun K Z ν w ev μ rs hone hg hv hrd => by
    obtain ⟨z, rfl⟩ := Int.eq_ofNat_of_zero_le h0
    simp only [Int.toNat_natCast]
    obtain ⟨rx, _⟩ := hv x (by rw [ho]; simp [Op.operands])
    obtain ⟨ry, _⟩ := hv y (by rw [ho]; simp [Op.operands])
    obtain ⟨ry2, _⟩ := hv y2 (by rw [ho]; simp [Op.operands])
    rw [hx] at rx
    rw [hy] at ry
    rw [hy2] at ry2
    have ey := one1 ry
    have ey2 := one1 ry2
    obtain ⟨A, cap, ex, c1, c2, c3⟩ := rx
    simp only [List.cons.injEq, and_true] at ex
    have hz : z ≤ xs.length := by omega
    have hs : (sizeOf e).run P w = .ok 1 w := by rw [sizeOf_run he, hsz]
    have g1 : z ≤ cap := by omega
    have hrun : (Instr.sliceAt t (ev x) none (some (ev y)) (some (ev y2))).run P w = .ok (.slice (if z = 0 then A else A.map (·.add (0 * 1))) (z - 0) (z - 0)) w := by
      rw [ex, ey, ey2]
      simp [Instr.sliceAt, Instr.slice, Instr.sliceBounds, Instr.sliceBound, asIntOf, Sem.run_bind, run_underlying (ht.slc e hk), hs, Result.andThen, Sem.run, g1]
    refine ⟨.slice (if z = 0 then A else A.map (·.add (0 * 1))) (z - 0) (z - 0), by simp [execOp, ho, Sem.run_bind, hrun, Result.andThen, Sem.run], ?_, rfl⟩
    show roRow Z w 1 (xs.take z).length (intAt (xs.take z)) _
    have hl : (xs.take z).length = z := by rw [List.length_take]; omega
    rw [hl]
    refine ⟨_, _, rfl, by omega, by omega, fun hp => ?_⟩
    obtain ⟨b, o', hA, hZ, hj⟩ := c3 (by omega)
    refine ⟨b, o', ?_, hZ, fun j hjz => ?_⟩
    · rw [if_neg (by omega), hA]; simp [Addr.add_lit]
    · obtain ⟨es, e1, e2, e3⟩ := hj j (by omega)
      refine ⟨es, ?_, e2, e3⟩
      rw [intAt] at e1 ⊢
      rw [e1, List.getD_eq_getElem?_getD, List.getD_eq_getElem?_getD, List.getElem?_take, if_pos hjz]

def evCap (tb : Nat → Option TI) (get : Operand → AV) (t : Nat) (x : Operand) (lo hi : Option Operand) (mx : Operand) : Option EvR :=
  match lo, hi with
  | none, some y => match tb t with
    | some i => match i.k with
      | .slc e => match tb e with
        | some ie => if Nat.beq ie.size 1 then (match get x with
          | .roI xs => match get y, get mx with
            | .int .i64 z, .int .i64 z' => some ⟨.roI (xs.take z.toNat), [], [], none, z' = z ∧ 0 ≤ z ∧ z ≤ xs.length⟩
            | _, _ => none
          | _ => none) else none
        | none => none
      | _ => none
    | none => none
  | _, _ => none
theorem evCap_ok (htb : TabOK P tb) {o : Oper} {t kn : Nat} {x mx : Operand} {lo hi : Option Operand} (ho : o.op = .slice t x lo hi (some mx)) {r : EvR} (h : evCap tb get t x lo hi mx = some r) (hob : r.ob) : EvOK P o get l kn r := by
  unfold evCap at h
  split at h
  · rename_i y
    split at h
    · rename_i i hi
      split at h
      · rename_i e hk
        split at h
        · rename_i ie he
          split at h
          · rename_i hsz
            split at h
            · rename_i xs hx
              split at h
              · rename_i z z' hy hy2
                simp only [Option.some.injEq] at h
                subst h
                obtain ⟨rfl, o2, o3⟩ := hob
                exact ⟨opsem_cap ho (htb t i hi) hk (htb e ie he) (Nat.eq_of_beq_eq_true hsz) hx hy hy2 o2 o3, rdin_nil, .inl rfl⟩
              · cases h
            · cases h
          · cases h
        · cases h
      · cases h
    · cases h
  · cases h
theorem evCap_rd {t : Nat} {x mx : Operand} {lo hi : Option Operand} {r : EvR} (h : evCap tb get t x lo hi mx = some r) : RdIn l r.rd := by
  unfold evCap at h
  (repeat' split at h) <;> first
    | (cases h; done)
    | (simp only [Option.some.injEq] at h; subst h; exact rdin_nil)

/-- Whether a slice type's elements are numbers. -/
def isIntS (tb : Nat → Option TI) (t : Nat) : Bool :=
  match tb t with
  | some i => match i.k with
    | .slc e => match tb e with
      | some ie => match ie.zero with | .int _ _ => true | _ => false
      | none => false
    | _ => false
  | none => false
end

end Go.Proofs.Ytgminhedbeblpaa.Cal
