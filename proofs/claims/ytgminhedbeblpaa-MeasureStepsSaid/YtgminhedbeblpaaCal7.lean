/- The table of operations that change nothing is right: structs that are built, and all of it together. -/
import Derived.Test.YtgminhedbeblpaaCal6
set_option linter.unusedVariables false
set_option linter.unusedSimpArgs false
namespace Go.Proofs.Ytgminhedbeblpaa.Cal
open Go

theorem foldl_sets (o : Nat) : ∀ (vs : List Value) (k : Nat) (cs : Array Value), o + k + vs.length ≤ cs.size →
    (vs.zipIdx k).foldl (fun (cs : Array Value) (p : Value × Nat) => cs.setIfInBounds (o + p.2) p.1) cs = (cs.toList.take (o + k) ++ vs ++ cs.toList.drop (o + k + vs.length)).toArray
  | [], k, cs, h => by simp
  | v :: vs, k, cs, h => by
    simp only [List.zipIdx_cons, List.foldl_cons]
    rw [foldl_sets o vs (k + 1) _ (by simp at h ⊢; omega)]
    simp only [List.length_cons] at h
    apply congrArg List.toArray
    apply List.ext_getElem?
    intro j
    simp only [Array.toList_setIfInBounds, List.length_cons]
    by_cases h1 : j < o + k
    · rw [List.getElem?_append_left (by simp; omega), List.getElem?_append_left (by simp; omega), List.getElem?_append_left (by simp; omega), List.getElem?_append_left (by simp; omega)]
      simp [List.getElem?_take, h1, show j < o + (k + 1) by omega, List.getElem?_set, show ¬ o + k = j by omega]
    · by_cases h2 : j = o + k
      · subst h2
        rw [List.getElem?_append_left (by simp; omega), List.getElem?_append_left (by simp; omega), List.getElem?_append_left (by simp; omega), List.getElem?_append_right (by simp; omega)]
        have e : o + k - (List.take (o + k) cs.toList).length = 0 := by simp; omega
        rw [e]
        simp [List.getElem?_take, show o + k < o + (k + 1) by omega, show o + k < cs.size by omega]
      · by_cases h3 : j < o + k + (vs.length + 1)
        · rw [List.getElem?_append_left (by simp; omega), List.getElem?_append_right (by simp; omega), List.getElem?_append_left (by simp; omega), List.getElem?_append_right (by simp; omega)]
          have e1 : j - (List.take (o + (k + 1)) (cs.toList.set (o + k) v)).length = j - (o + k + 1) := by simp; omega
          have e2 : j - (List.take (o + k) cs.toList).length = (j - (o + k + 1)) + 1 := by simp; omega
          rw [e1, e2]; simp
        · rw [List.getElem?_append_right (by simp; omega), List.getElem?_append_right (by simp; omega)]
          have e1 : j - (List.take (o + (k + 1)) (cs.toList.set (o + k) v) ++ vs).length = j - (o + k + 1 + vs.length) := by simp; omega
          have e2 : j - (List.take (o + k) cs.toList ++ v :: vs).length = j - (o + k + 1 + vs.length) := by simp; omega
          rw [e1, e2, List.getElem?_drop, List.getElem?_drop, List.getElem?_set]
          rw [if_neg (by omega)]
          congr 1
          omega

theorem set_cells (o : Nat) (vs cs : Array Value) (h : o + vs.size ≤ cs.size) : (vs.zipIdx.foldl (fun (cs : Array Value) (p : Value × Nat) => cs.setIfInBounds (o + p.2) p.1) cs) = (cs.toList.take o ++ vs.toList ++ cs.toList.drop (o + vs.size)).toArray := by
  have := foldl_sets o vs.toList 0 cs (by simpa using h)
  simp only [Nat.add_zero, Array.length_toList] at this
  rw [← this, ← Array.foldl_toList]
  simp

theorem lenL_app : ∀ {a b : AV}, properL a = true → lenL (appL a b) = lenL a + lenL b := by
  intro a
  induction a with
  | cons h t _ ih => intro b hp; simp only [appL, lenL]; rw [ih hp]; omega
  | nil => intro b _; simp [appL, lenL]
  | _ => intro b hp; cases hp
theorem properL_app : ∀ {a b : AV}, properL a = true → properL b = true → properL (appL a b) = true := by
  intro a
  induction a with
  | cons h t _ ih => intro b hp hb; exact ih hp hb
  | nil => intro b _ hb; exact hb
  | _ => intro b hp; cases hp
theorem properL_drop : ∀ {l : AV} {i : Nat}, properL l = true → properL (dropL l i) = true := by
  intro l
  induction l with
  | cons h t _ ih => intro i hp; cases i with
    | zero => exact hp
    | succ i => exact ih hp
  | nil => intro i _; cases i <;> rfl
  | _ => intro i hp; cases hp
theorem lenL_drop : ∀ {l : AV} {o : Nat}, o ≤ lenL l → lenL (dropL l o) = lenL l - o := by
  intro l
  induction l with
  | cons h t _ ih => intro o ho; cases o with
    | zero => rfl
    | succ o => simp only [dropL, lenL] at ho ⊢; rw [ih (by omega)]; omega
  | _ => intro o ho; simp only [lenL] at ho; obtain rfl : o = 0 := by omega
         rfl
theorem men_app {μ : Nat → Bool} : ∀ {a b : AV}, men μ a = true → men μ b = true → men μ (appL a b) = true := by
  intro a
  induction a with
  | cons h t _ ih => intro b ha hb; simp only [men, appL, Bool.and_eq_true] at ha ⊢; exact ⟨ha.1, ih ha.2 hb⟩
  | _ => intro b _ hb; exact hb
theorem R_app {Z : Nat → Prop} {w : World} {ν : Nat → Value} : ∀ {a b : AV} {ca cb : List Value}, properL a = true → R Z w a ν true ca → R Z w b ν true cb → R Z w (appL a b) ν true (ca ++ cb) := by
  intro a
  induction a with
  | cons h t _ ih => intro b ca cb hp ha hb; obtain ⟨v, vs, rfl, r1, r2⟩ := ha; exact ⟨v, vs ++ cb, rfl, r1, ih hp r2 hb⟩
  | nil => intro b ca cb _ ha hb; rw [show ca = [] from ha]; exact hb
  | _ => intro b ca cb hp; cases hp

theorem cells_of_val {Z : Nat → Prop} {w : World} {ν : Nat → Value} {u : AV} {v : Value} (hv : isV u = true) (h : R Z w u ν true [v]) (hone : isAg u = false → v.cells.toList = [v]) : R Z w (cellsL u) ν true v.cells.toList := by
  cases u with
  | agg l => obtain ⟨es, e, r⟩ := h; obtain rfl := one1 e; exact r
  | nil => cases hv
  | cons a b => cases hv
  | _ => rw [hone rfl]; exact ⟨v, [], rfl, h, rfl⟩

section
variable {P : Program} {K Z : Nat → Prop} {ν : Nat → Value} {w : World} {get : Operand → AV} {ev : Operand → Value} {μ : Nat → Bool} {rs : Rs} {xs : List Operand} {l : List (Nat × Option Blk)}

theorem oneCell_of {u : AV} {v : Value} (h1 : ∀ k, (ν k).oneCell' = true) (hc : isC u = true) (ha : isAg u = false) (h : R Z w u ν true [v]) : v.oneCell' = true ∧ v.cells = #[v] := by
  cases u with
  | agg l => cases ha
  | int k n => obtain rfl := one1 h; exact ⟨rfl, rfl⟩
  | bool b => obtain rfl := one1 h; exact ⟨rfl, rfl⟩
  | own k => obtain rfl := one1 h; exact ⟨h1 k, by have := h1 k; cases hk : ν k <;> simp_all [Value.oneCell', Value.cells]⟩
  | adr k sz i o => obtain ⟨b, f, _, e⟩ := h; obtain rfl := one1 e; exact ⟨rfl, rfl⟩
  | roI xs => obtain ⟨A, cap, e, _⟩ := h; obtain rfl := one1 e; exact ⟨rfl, rfl⟩
  | roB xs => obtain ⟨A, cap, e, _⟩ := h; obtain rfl := one1 e; exact ⟨rfl, rfl⟩
  | roII xs => obtain ⟨A, cap, e, _⟩ := h; obtain rfl := one1 e; exact ⟨rfl, rfl⟩
  | ro sz n f => obtain ⟨A, cap, e, _⟩ := h; obtain rfl := one1 e; exact ⟨rfl, rfl⟩
  | rop u => obtain ⟨b, o, e, _⟩ := h; obtain rfl := one1 e; exact ⟨rfl, rfl⟩
  | fn f c => obtain ⟨es, e, _⟩ := h; obtain rfl := one1 e; exact ⟨rfl, rfl⟩
  | yld k => obtain ⟨l, _, e⟩ := h; obtain rfl := one1 e; exact ⟨rfl, rfl⟩
  | cst c => obtain rfl := one1 h; cases v <;> first | cases hc; done | exact ⟨rfl, rfl⟩
  | _ => cases hc

theorem isC_V {u : AV} (h : isC u = true) : isV u = true := by cases u <;> first | rfl | cases h

theorem cells_val {u : AV} {v : Value} (h1 : ∀ k, (ν k).oneCell' = true) (hc : isC u = true) (h : R Z w u ν true [v]) : R Z w (cellsL u) ν true v.cells.toList :=
  cells_of_val (isC_V hc) h fun ha => by rw [(oneCell_of h1 hc ha h).2]

theorem fill_ok {fs : List (Nat × Nat × Bool)} {places : Array (Nat × Nat)} (hp : ∀ (f o sz : Nat) (g : Bool), fs[f]? = some (o, sz, g) → places[f]? = some (o, sz)) (h1 : ∀ k, (ν k).oneCell' = true) :
    ∀ (parts : List (Nat × Operand)) (l l' : AV) (cs : List Value), (∀ p, p ∈ parts → R Z w (get p.2) ν true [ev p.2] ∧ men μ (get p.2) = true) → R Z w l ν true cs → properL l = true → men μ l = true →
      fillL fs l (parts.map fun p => (p.1, get p.2)) = some l' → ∃ cs', Instr.fill (places[·]?) cs.toArray (parts.map fun p => (p.1, ev p.2)) = some cs'.toArray ∧ R Z w l' ν true cs' ∧ men μ l' = true
  | [], l, l', cs, _, hr, _, hm, h => by
    simp only [List.map_nil, fillL, Option.some.injEq] at h
    subst h
    exact ⟨cs, rfl, hr, hm⟩
  | (f, x) :: parts, l, l', cs, hx, hr, hpr, hm, h => by
    simp only [List.map_cons, fillL] at h
    split at h
    · rename_i o sz g hf
      split at h
      · rename_i hc
        simp only [Bool.and_eq_true, Nat.ble_eq] at hc
        obtain ⟨⟨⟨hv, hpv⟩, hsz⟩, hle⟩ := hc
        have hsz := Nat.eq_of_beq_eq_true hsz
        obtain ⟨rx, mx⟩ := hx (f, x) List.mem_cons_self
        have rc := cells_val h1 hv rx
        have hlen := R_len hpv rc
        have hlcs := R_len hpr hr
        have hsize : (ev x).cells.size = sz := by simpa [hsz] using hlen
        obtain ⟨cs', e1, e2, e3⟩ := fill_ok hp h1 parts _ l' (cs.take o ++ ((ev x).cells.toList ++ cs.drop (o + sz))) (fun p hp => hx p (List.mem_cons_of_mem _ hp))
          (R_app (properL_take (by omega)) (R_take hr (by omega)) (R_app hpv rc (R_drop hr (by omega)))) (properL_app (properL_take (by omega)) (properL_app hpv (properL_drop hpr)))
          (men_app (men_take hm) (men_app (men_cells mx) (men_drop hm))) h
        refine ⟨cs', ?_, e2, e3⟩
        rw [← e1]
        simp only [List.map_cons, Instr.fill, hp f o sz g hf]
        rw [if_neg (by simp [hsize]; omega), set_cells o _ _ (by simp [hsize]; omega)]
        simp [hsize, List.append_assoc]
      · cases h
    · cases h

theorem run_mapM_ok' {α β : Type} (g : α → Sem β) (r : α → β) (w : World) : ∀ (l : List α), (∀ a, a ∈ l → (g a).run P w = .ok (r a) w) → (l.mapM g).run P w = .ok (l.map r) w
  | [], _ => by simp [Sem.run]
  | a :: l, h => by
    rw [List.mapM_cons]
    simp [Sem.run_bind, h a List.mem_cons_self, run_mapM_ok' g r w l (fun x hx => h x (List.mem_cons_of_mem _ hx)), Result.andThen, Sem.run]

theorem says_build {t : Nat} {i : TI} (ht : TOK P t i) {fs : List (Nat × Nat × Bool)} (hk : i.k = .str fs) (h1 : ∀ k, (ν k).oneCell' = true) {parts : Array (Nat × Operand)} {l' : AV} (hz : properL (cellsL i.zero) = true) (hz2 : isV i.zero = true)
    (hx : ∀ p, p ∈ parts.toList → R Z w (get p.2) ν true [ev p.2] ∧ men μ (get p.2) = true) (hmz : men μ i.zero = true) (h : fillL fs (cellsL i.zero) (parts.toList.map fun p => (p.1, get p.2)) = some l') :
    ∃ y, (Instr.build t (parts.map fun p => (p.1, ev p.2))).run P w = .ok y w ∧ R Z w (.agg l') ν true [y] ∧ men μ l' = true := by
  obtain ⟨arr, hu, hsz, hf⟩ := ht.str fs hk
  obtain ⟨inf, hi1, hi2, _, z, hz3, _, _, _, hz4⟩ := ht.info
  have hzv : (zeroValue t).run P w = .ok z w := by simp [zeroValue, typeInfo, Sem.run_bind, hi1, hz3, Result.andThen, program, Sem.run]
  let pl : Field → Nat × Nat := fun f => (f.offset, ((P.info? f.type).map (·.size)).getD 0)
  have hpl : (arr.mapM fun f => do pure (f.offset, ← sizeOf f.type) : Sem (Array (Nat × Nat))).run P w = .ok (arr.toList.map pl).toArray w := by
    rw [Array.mapM_eq_mapM_toList]
    have := run_mapM_ok' (P := P) (fun f : Field => (do pure (f.offset, ← sizeOf f.type) : Sem (Nat × Nat))) pl w arr.toList (fun f hfm => by
      obtain ⟨k, hk1, hk2⟩ := List.getElem_of_mem hfm
      have hkk : k < fs.length := by rw [← hsz]; simpa using hk1
      obtain ⟨fd, a1, a2, a3, inf', a4, a5⟩ := hf k fs[k].1 fs[k].2.1 fs[k].2.2 (by simp [hkk])
      have : fd = f := by
        have e : arr[k]? = some f := by rw [← hk2]; simp
        rw [a1] at e; exact Option.some.inj e
      subst this
      simp [sizeOf, typeInfo, Sem.run_bind, a4, Result.andThen, program, Sem.run, pl])
    rw [map_eq_pure_bind, Sem.run_bind, this]
    rfl
  have hp : ∀ (f o sz : Nat) (g : Bool), fs[f]? = some (o, sz, g) → (arr.toList.map pl).toArray[f]? = some (o, sz) := by
    intro f o sz g hfs
    obtain ⟨fd, a1, a2, a3, inf', a4, a5⟩ := hf f o sz g hfs
    simp [a1, pl, a2, a4, a5]
  obtain ⟨cs', e1, e2, e3⟩ := fill_ok (ev := ev) hp h1 parts.toList (cellsL i.zero) l' z.cells.toList hx (R_cells hz2 (hz4 Z w ν)) hz (men_cells hmz) h
  refine ⟨.agg cs'.toArray, ?_, ⟨cs', rfl, e2⟩, e3⟩
  simp at e1
  simp only [Instr.build, Sem.run_bind, Sem.run_pure, hzv, run_underlying hu, Result.andThen_ok, hpl]
  simp [e1, Sem.run]

theorem ofL_ok : ∀ (xs : List Operand), (∀ x, x ∈ xs → R Z w (get x) ν true [ev x] ∧ men μ (get x) = true) → R Z w (ofL get xs) ν true (xs.map ev) ∧ men μ (ofL get xs) = true
  | [], _ => ⟨rfl, rfl⟩
  | x :: xs, h => by
    obtain ⟨h1, h2⟩ := ofL_ok xs fun y hy => h y (List.mem_cons_of_mem _ hy)
    obtain ⟨g1, g2⟩ := h x List.mem_cons_self
    exact ⟨⟨_, _, rfl, g1, h1⟩, by simp only [ofL, men, g2, h2, Bool.and_self]⟩

theorem equalIn_bool {t : Nat} (h : P.underlying t = some .bool) (d : Nat) (a b : Bool) (w : World) : (Op.equalIn (d + 1) t (.bool a) (.bool b)).run P w = .ok (a == b) w := by
  simp [Op.equalIn, run_underlying h]
theorem eql_bool {t : Nat} (h : P.underlying t = some .bool) (a b : Bool) (w : World) : (binOp .eql t (.bool a) (.bool b)).run P w = .ok (.bool (a == b)) w := by
  simp only [binOp]
  simp [Op.equal, Op.maxDepth, equalIn_bool h 9999 a b w]
theorem neq_bool {t : Nat} (h : P.underlying t = some .bool) (a b : Bool) (w : World) : (binOp .neq t (.bool a) (.bool b)).run P w = .ok (.bool (a != b)) w := by
  simp only [binOp]
  simp [Op.equal, Op.maxDepth, equalIn_bool h 9999 a b w, bne]

theorem evBin_men {op : BinOp} {u1 u2 v : AV} {rd : List (Nat × Blk)} {ob : Prop} (h : evBin op u1 u2 = some (v, rd, ob)) : True := trivial

/-- THE TABLE IS RIGHT. -/
theorem evp_ok {tb : Nat → Option TI} (htb : TabOK P tb) (hmz : ∀ t i, tb t = some i → men noK i.zero = true) (o : Oper) (h1 : ∀ k, (ν k).oneCell' = true) (hg : GoodRs K Z w ν μ rs) (hx : ∀ x, x ∈ o.op.operands → R Z w (get x) ν true [ev x] ∧ men μ (get x) = true)
    {v : AV} {rd : List (Nat × Blk)} {ob : Prop} (h : evp tb get l o.op = some (v, rd, ob)) (hob : ob) (hrd : ∀ p, p ∈ rd → rs p.1 = some p.2) :
    ∃ y, (execOp ev o).run P w = .ok (.value y) w ∧ R Z w v ν true [y] ∧ men μ v = true := by
  have wrap : ∀ (s : Sem Value), (∃ y, s.run P w = .ok y w ∧ R Z w v ν true [y] ∧ men μ v = true) → ∃ y, (do pure (Next.value (← s)) : Sem Next).run P w = .ok (.value y) w ∧ R Z w v ν true [y] ∧ men μ v = true := by
    rintro s ⟨y, hy, r⟩
    exact ⟨y, by simp [Sem.run_bind, hy, Result.andThen, Sem.run], r⟩
  unfold execOp
  cases hop : o.op <;> rw [hop] at h hx <;> simp only [evp] at h
  case move x =>
    simp only [Option.some.injEq, Prod.mk.injEq] at h; obtain ⟨rfl, rfl, rfl⟩ := h
    exact ⟨_, rfl, hx x (by simp [Op.operands])⟩
  case assign x =>
    simp only [Option.some.injEq, Prod.mk.injEq] at h; obtain ⟨rfl, rfl, rfl⟩ := h
    exact ⟨_, rfl, hx x (by simp [Op.operands])⟩
  case load t a =>
    split at h
    · rename_i i ht
      exact wrap _ (says_load (htb t i ht) hg (hx a (by simp [Op.operands])) h hob hrd)
    · cases h
  case fieldAddr s x f =>
    split at h
    · rename_i i ht
      split at h
      · rename_i fs hk
        exact wrap _ (says_field (htb s i ht) hk hg (hx x (by simp [Op.operands])) h hrd)
      · cases h
    · cases h
  case indexAddr t x ix =>
    split at h
    · rename_i i ht
      split at h
      · rename_i e hk
        split at h
        · rename_i ie he
          split at h
          · rename_i z hz
            have := (hx ix (by simp [Op.operands])).1
            rw [hz] at this
            have e1 := one1 this
            refine wrap _ ?_
            rw [e1]
            exact says_index (htb t i ht) hk (htb e ie he) hg (hx x (by simp [Op.operands])) h hob hrd
          · cases h
        · cases h
      · cases h
    · cases h
  case binOp op t x y yt =>
    have hrx := (hx x (by simp [Op.operands])).1
    have hry := (hx y (by simp [Op.operands])).1
    split at h
    · rename_i a b ha hb
      rw [ha] at hrx; rw [hb] at hry
      have ea := one1 hrx
      have eb := one1 hry
      split at h
      · rename_i i ht
        split at h
        · rename_i hk
          simp only [Option.some.injEq, Prod.mk.injEq] at h; obtain ⟨rfl, rfl, rfl⟩ := h
          refine ⟨.bool (a == b), ?_, rfl, rfl⟩
          simp [ea, eb, eqGuard, Sem.run_bind, eql_bool ((htb t i ht).bool hk), Result.andThen, Sem.run]
        · rename_i hk
          simp only [Option.some.injEq, Prod.mk.injEq] at h; obtain ⟨rfl, rfl, rfl⟩ := h
          refine ⟨.bool (a != b), ?_, rfl, rfl⟩
          simp [ea, eb, eqGuard, Sem.run_bind, neq_bool ((htb t i ht).bool hk), Result.andThen, Sem.run]
        · cases h
      · cases h
    · exact wrap _ (says_bin (rs := rs) hrx hry h hob x y hrd)
  case unOp op t x =>
    have hrx := (hx x (by simp [Op.operands])).1
    split at h
    · rename_i b hb
      rw [hb] at hrx
      have e := one1 hrx
      simp only [Option.some.injEq, Prod.mk.injEq] at h; obtain ⟨rfl, rfl, rfl⟩ := h
      exact ⟨.bool (!b), by simp [e, Op.unary, Sem.run_bind, Result.andThen, Sem.run], rfl, rfl⟩
    · rename_i n hn
      rw [hn] at hrx
      have e := one1 hrx
      simp only [Option.some.injEq, Prod.mk.injEq] at h; obtain ⟨rfl, rfl, rfl⟩ := h
      exact ⟨.int .i64 (IntKind.i64.wrap (-n)), by simp [e, Op.unary, Op.intArith, Sem.run_bind, Result.andThen, Sem.run], rfl, rfl⟩
    · cases h
  case extract x n =>
    have hrx := hx x (by simp [Op.operands])
    split at h
    · rename_i lst hl
      rw [hl] at hrx
      split at h
      · rename_i hn
        simp only [Option.some.injEq, Prod.mk.injEq] at h; obtain ⟨rfl, rfl, rfl⟩ := h
        obtain ⟨es, e, r⟩ := hrx.1
        have e := one1 e
        obtain ⟨y, hy, ry⟩ := R_nth r (by simpa using hn)
        exact ⟨y, by simp [e, Instr.extract, Sem.run_bind, hy, Result.andThen, Sem.run], ry, men_nth hrx.2⟩
      · cases h
    · cases h
  case build t parts =>
    split at h
    · rename_i i ht
      split at h
      · rename_i fs hk
        split at h
        · rename_i hc
          simp only [Bool.and_eq_true] at hc
          split at h
          · rename_i l' hl'
            simp only [Option.some.injEq, Prod.mk.injEq] at h; obtain ⟨rfl, rfl, rfl⟩ := h
            exact wrap _ (says_build (htb t i ht) hk h1 hc.1.1 hc.1.2 (fun p hp => hx p.2 (by simp [Op.operands]; exact ⟨p.1, by simpa using hp⟩)) (men_free (hmz t i ht)) hl')
          · cases h
        · cases h
      · cases h
    · cases h
  case makeFunc fn first caps =>
    cases fn <;> simp only at h <;> try (cases h; done)
    rename_i f
    split at h
    · rename_i hf
      simp only [Option.some.injEq, Prod.mk.injEq] at h; obtain ⟨rfl, rfl, rfl⟩ := h
      obtain ⟨r1, r2⟩ := ofL_ok (get := get) (ev := ev) caps.toList fun x hxx => hx x (by simp [Op.operands]; exact .inr (by simpa using hxx))
      have hf0 : first = #[] := by simpa using hf
      exact ⟨.func (.func f) #[] (caps.map ev), by simp [Instr.makeFunc, hf0, Sem.run_bind, Result.andThen, Sem.run], ⟨caps.toList.map ev, congrArg (fun a => [Value.func (.func f) #[] a]) (Array.ext' (by simp)), r1⟩, r2⟩
    · cases h
  case nilCheck x =>
    have hrx := hx x (by simp [Op.operands])
    split at h
    · rename_i k hk
      rw [hk] at hrx
      have e := one1 hrx.1
      split at h
      · simp only [Option.some.injEq, Prod.mk.injEq] at h; obtain ⟨rfl, rfl, rfl⟩ := h
        obtain ⟨b, cells, T, hv, _⟩ := box_of hg (lkr_mem rfl hrd)
        exact ⟨_, by simp only [e, hv]; rfl, by rw [← hv]; rfl, hrx.2⟩
      · cases h
    · rename_i k sz i o hk
      rw [hk] at hrx
      obtain ⟨b, f, hb, e⟩ := hrx.1
      have e := one1 e
      simp only [Option.some.injEq, Prod.mk.injEq] at h; obtain ⟨rfl, rfl, rfl⟩ := h
      exact ⟨_, by simp only [e]; rfl, ⟨b, f, hb, rfl⟩, hrx.2⟩
    · rename_i u hk
      rw [hk] at hrx
      obtain ⟨b, q, e, r⟩ := hrx.1
      have e := one1 e
      simp only [Option.some.injEq, Prod.mk.injEq] at h; obtain ⟨rfl, rfl, rfl⟩ := h
      exact ⟨_, by simp only [e]; rfl, ⟨b, q, rfl, r⟩, hrx.2⟩
    · rename_i f c hk
      rw [hk] at hrx
      obtain ⟨vs, e, r⟩ := hrx.1
      have e := one1 e
      simp only [Option.some.injEq, Prod.mk.injEq] at h; obtain ⟨rfl, rfl, rfl⟩ := h
      exact ⟨_, by simp only [e]; rfl, ⟨vs, rfl, r⟩, hrx.2⟩
    · cases h
  case slice t x lo hi mx =>
    cases mx with
    | some _ => simp only at h; cases h
    | none =>
    simp only at h
    split at h
    · rename_i i ht
      split at h
      · rename_i e hk
        split at h
        · rename_i ie he
          split at h
          · rename_i hsz
            have hsz := Nat.eq_of_beq_eq_true hsz
            split at h
            · rename_i lz hlo
              have hop2 : ∀ y, lo = some y ∨ hi = some y → R Z w (get y) ν true [ev y] := by
                intro y hy
                refine (hx y ?_).1
                rcases hy with rfl | rfl <;> simp [Op.operands]
              cases hi with
              | none => exact wrap _ (says_slice (rs := rs) (ev := ev) (get := get) (hi := none) (htb t i ht) hk (htb e ie he) hsz (hx x (by simp [Op.operands])).1 hlo (.inl ⟨rfl, rfl⟩) hop2 h hob hrd)
              | some y =>
                simp only at h
                split at h
                · rename_i z hz
                  exact wrap _ (says_slice (rs := rs) (ev := ev) (get := get) (hi := some y) (htb t i ht) hk (htb e ie he) hsz (hx x (by simp [Op.operands])).1 hlo (.inr ⟨y, z, rfl, hz, rfl⟩) hop2 h hob hrd)
                · cases h
            · cases h
          · cases h
        · cases h
      · cases h
    · cases h
  case call c =>
    obtain ⟨callee, args, argTypes⟩ := c
    simp only at h
    split at h
    · split at h
      · rename_i x t ha hty
        have ha : args = #[x] := by rw [← Array.toArray_toList (xs := args), ha]
        have hty : argTypes = #[t] := by rw [← Array.toArray_toList (xs := argTypes), hty]
        subst ha hty
        split at h
        · rename_i i ht
          split at h
          · rename_i e hk
            obtain ⟨y, hy, r⟩ := says_len (rs := rs) (htb t i ht) hk hg (hx x (by simp [Op.operands, Call.operands])).1 h o.type hrd
            exact ⟨y, by simp [resolve, invoke, builtin, Sem.run_bind, Result.andThen, Sem.run, hy], r⟩
          · cases h
        · cases h
      · cases h
    · split at h
      · rename_i x y ha
        have ha : args = #[x, y] := by rw [← Array.toArray_toList (xs := args), ha]
        subst ha
        split at h
        · rename_i a b hxa hyb
          have h3 := (hx x (by simp [Op.operands, Call.operands])).1
          have h4 := (hx y (by simp [Op.operands, Call.operands])).1
          rw [hxa] at h3; rw [hyb] at h4
          have e3 := one1 h3
          have e4 := one1 h4
          simp only [Option.some.injEq, Prod.mk.injEq] at h; obtain ⟨rfl, rfl, rfl⟩ := h
          refine ⟨.int .i64 (max a b), ?_, rfl, rfl⟩
          have : (if b > a then b else a) = max a b := by omega
          simp [resolve, invoke, builtin, Builtin.max_, Builtin.max2, Sem.run_bind, Result.andThen, Sem.run, e3, e4, this]
        · cases h
      · rename_i x y z ha
        have ha : args = #[x, y, z] := by rw [← Array.toArray_toList (xs := args), ha]
        subst ha
        split at h
        · rename_i a b c hxa hyb hzc
          have h3 := (hx x (by simp [Op.operands, Call.operands])).1
          have h4 := (hx y (by simp [Op.operands, Call.operands])).1
          have h5 := (hx z (by simp [Op.operands, Call.operands])).1
          rw [hxa] at h3; rw [hyb] at h4; rw [hzc] at h5
          have e3 := one1 h3
          have e4 := one1 h4
          have e5 := one1 h5
          simp only [Option.some.injEq, Prod.mk.injEq] at h; obtain ⟨rfl, rfl, rfl⟩ := h
          refine ⟨.int .i64 (max (max a b) c), ?_, rfl, rfl⟩
          have t1 : (if b > a then b else a) = max a b := by omega
          have t2 : (if c > max a b then c else max a b) = max (max a b) c := by omega
          simp [resolve, invoke, builtin, Builtin.max_, Builtin.max2, Sem.run_bind, Result.andThen, Sem.run, e3, e4, e5, t1, t2]
        · cases h
      · cases h
    · split at h
      · rename_i x y ha
        have ha : args = #[x, y] := by rw [← Array.toArray_toList (xs := args), ha]
        subst ha
        split at h
        · rename_i a b hxa hyb
          have h3 := (hx x (by simp [Op.operands, Call.operands])).1
          have h4 := (hx y (by simp [Op.operands, Call.operands])).1
          rw [hxa] at h3; rw [hyb] at h4
          have e3 := one1 h3
          have e4 := one1 h4
          simp only [Option.some.injEq, Prod.mk.injEq] at h; obtain ⟨rfl, rfl, rfl⟩ := h
          refine ⟨.int .i64 (min a b), ?_, rfl, rfl⟩
          have : (if b < a then b else a) = min a b := by omega
          simp [resolve, invoke, builtin, Builtin.min_, Builtin.min2, Sem.run_bind, Result.andThen, Sem.run, e3, e4, this]
        · cases h
      · rename_i x y z ha
        have ha : args = #[x, y, z] := by rw [← Array.toArray_toList (xs := args), ha]
        subst ha
        split at h
        · rename_i a b c hxa hyb hzc
          have h3 := (hx x (by simp [Op.operands, Call.operands])).1
          have h4 := (hx y (by simp [Op.operands, Call.operands])).1
          have h5 := (hx z (by simp [Op.operands, Call.operands])).1
          rw [hxa] at h3; rw [hyb] at h4; rw [hzc] at h5
          have e3 := one1 h3
          have e4 := one1 h4
          have e5 := one1 h5
          simp only [Option.some.injEq, Prod.mk.injEq] at h; obtain ⟨rfl, rfl, rfl⟩ := h
          refine ⟨.int .i64 (min (min a b) c), ?_, rfl, rfl⟩
          have t1 : (if b < a then b else a) = min a b := by omega
          have t2 : (if c < min a b then c else min a b) = min (min a b) c := by omega
          simp [resolve, invoke, builtin, Builtin.min_, Builtin.min2, Sem.run_bind, Result.andThen, Sem.run, e3, e4, e5, t1, t2]
        · cases h
      · cases h
    · cases h
  all_goals first | (cases h; done) | (simp at h; done)
end

end Go.Proofs.Ytgminhedbeblpaa.Cal
