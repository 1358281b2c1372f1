/- Own texts of the proof, merged, in order. -/
import Derived.Laws.CopyRow
import Derived.Laws.Append
import Derived.Deep.OwnRows
import Derived.Test.YtbcghiagomkadaaS2
set_option linter.unusedVariables false
set_option linter.unusedSimpArgs false
namespace Go.Proofs.Ytbcghiagomkadaa.Cal
open Go
theorem foldl_sets (o : Nat) : ∀ (vs : List Value) (k : Nat) (cs : Array Value), o + k + vs.length ≤ cs.size →
    (vs.zipIdx k).foldl (fun (cs : Array Value) (p : Value × Nat) => cs.setIfInBounds (o + p.2) p.1) cs = (cs.toList.take (o + k) ++ vs ++ cs.toList.drop (o + k + vs.length)).toArray
  | [], k, cs, h => by simp
  | v :: vs, k, cs, h => by
    simp only [List.zipIdx_cons, List.foldl_cons]
    rw [foldl_sets o vs (k + 1) _ (by simp at h ⊢; omega)]
    simp only [List.length_cons] at h
    apply congrArg List.toArray
    apply List.ext_getElem?
    intro j
    simp only [Array.toList_setIfInBounds, List.length_cons]
    by_cases h1 : j < o + k
    · rw [List.getElem?_append_left (by simp; omega), List.getElem?_append_left (by simp; omega), List.getElem?_append_left (by simp; omega), List.getElem?_append_left (by simp; omega)]
      simp [List.getElem?_take, h1, show j < o + (k + 1) by omega, List.getElem?_set, show ¬ o + k = j by omega]
    · by_cases h2 : j = o + k
      · subst h2
        rw [List.getElem?_append_left (by simp; omega), List.getElem?_append_left (by simp; omega), List.getElem?_append_left (by simp; omega), List.getElem?_append_right (by simp; omega)]
        have e : o + k - (List.take (o + k) cs.toList).length = 0 := by simp; omega
        rw [e]
        simp [List.getElem?_take, show o + k < o + (k + 1) by omega, show o + k < cs.size by omega]
      · by_cases h3 : j < o + k + (vs.length + 1)
        · rw [List.getElem?_append_left (by simp; omega), List.getElem?_append_right (by simp; omega), List.getElem?_append_left (by simp; omega), List.getElem?_append_right (by simp; omega)]
          have e1 : j - (List.take (o + (k + 1)) (cs.toList.set (o + k) v)).length = j - (o + k + 1) := by simp; omega
          have e2 : j - (List.take (o + k) cs.toList).length = (j - (o + k + 1)) + 1 := by simp; omega
          rw [e1, e2]; simp
        · rw [List.getElem?_append_right (by simp; omega), List.getElem?_append_right (by simp; omega)]
          have e1 : j - (List.take (o + (k + 1)) (cs.toList.set (o + k) v) ++ vs).length = j - (o + k + 1 + vs.length) := by simp; omega
          have e2 : j - (List.take (o + k) cs.toList ++ v :: vs).length = j - (o + k + 1 + vs.length) := by simp; omega
          rw [e1, e2, List.getElem?_drop, List.getElem?_drop, List.getElem?_set]
          rw [if_neg (by omega)]
          congr 1
          omega
theorem set_cells (o : Nat) (vs cs : Array Value) (h : o + vs.size ≤ cs.size) : (vs.zipIdx.foldl (fun (cs : Array Value) (p : Value × Nat) => cs.setIfInBounds (o + p.2) p.1) cs) = (cs.toList.take o ++ vs.toList ++ cs.toList.drop (o + vs.size)).toArray := by
  have := foldl_sets o vs.toList 0 cs (by simpa using h)
  simp only [Nat.add_zero, Array.length_toList] at this
  rw [← this, ← Array.foldl_toList]
  simp
theorem Zd8 : ∀ {a b : AV}, properL a = true → properL b = true → properL (appL a b) = true := by
  intro a
  induction a with
  | cons h t _ ih => intro b hp hb; exact ih hp hb
  | nil => intro b _ hb; exact hb
  | _ => intro b hp; cases hp
theorem properL_drop : ∀ {l : AV} {i : Nat}, properL l = true → properL (dropL l i) = true := by
  intro l
  induction l with
  | cons h t _ ih => intro i hp; cases i with
    | zero => exact hp
    | succ i => exact ih hp
  | nil => intro i _; cases i <;> rfl
  | _ => intro i hp; cases hp
theorem Zge {μ : Nat → Bool} : ∀ {a b : AV}, men μ a = true → men μ b = true → men μ (appL a b) = true := by
  intro a
  induction a with
  | cons h t _ ih => intro b ha hb; simp only [men, appL, Bool.and_eq_true] at ha ⊢; exact ⟨ha.1, ih ha.2 hb⟩
  | _ => intro b _ hb; exact hb
theorem Zhp {Z : Nat → Prop} {w : World} {ν : Nat → Value} : ∀ {a b : AV} {ca cb : List Value}, properL a = true → R Z w a ν true ca → R Z w b ν true cb → R Z w (appL a b) ν true (ca ++ cb) := by
  intro a
  induction a with
  | cons h t _ ih => intro b ca cb hp ha hb; obtain ⟨v, vs, rfl, r1, r2⟩ := ha; exact ⟨v, vs ++ cb, rfl, r1, ih hp r2 hb⟩
  | nil => intro b ca cb _ ha hb; rw [show ca = [] from ha]; exact hb
  | _ => intro b ca cb hp; cases hp
theorem cells_of_val {Z : Nat → Prop} {w : World} {ν : Nat → Value} {u : AV} {v : Value} (hv : isV u = true) (h : R Z w u ν true [v]) (hone : isAg u = false → v.cells.toList = [v]) : R Z w (cellsL u) ν true v.cells.toList := by
  cases u with
  | agg l => obtain ⟨es, e, r⟩ := h; obtain rfl := one1 e; exact r
  | nil => cases hv
  | cons a b => cases hv
  | _ => rw [hone rfl]; exact ⟨v, [], rfl, h, rfl⟩
section
variable {P : Program} {K Z : Nat → Prop} {ν : Nat → Value} {w : World} {get : Operand → AV} {ev : Operand → Value} {μ : Nat → Bool} {rs : Rs} {xs : List Operand} {l : List (Nat × Option Blk)}
theorem Zc8 {u : AV} {v : Value} (h1 : ∀ k, (ν k).oneCell' = true) (hc : isC u = true) (ha : isAg u = false) (h : R Z w u ν true [v]) : v.oneCell' = true ∧ v.cells = #[v] := by
  cases u with
  | agg l => cases ha
  | int k n => obtain rfl := one1 h; exact ⟨rfl, rfl⟩
  | bool b => obtain rfl := one1 h; exact ⟨rfl, rfl⟩
  | own k => obtain rfl := one1 h; exact ⟨h1 k, by have := h1 k; cases hk : ν k <;> simp_all [Value.oneCell', Value.cells]⟩
  | adr k sz i o => obtain ⟨b, f, _, e⟩ := h; obtain rfl := one1 e; exact ⟨rfl, rfl⟩
  | roI xs => obtain ⟨A, cap, e, _⟩ := h; obtain rfl := one1 e; exact ⟨rfl, rfl⟩
  | roB xs => obtain ⟨A, cap, e, _⟩ := h; obtain rfl := one1 e; exact ⟨rfl, rfl⟩
  | roII xs => obtain ⟨A, cap, e, _⟩ := h; obtain rfl := one1 e; exact ⟨rfl, rfl⟩
  | ro sz n f => obtain ⟨A, cap, e, _⟩ := h; obtain rfl := one1 e; exact ⟨rfl, rfl⟩
  | rop u => obtain ⟨b, o, e, _⟩ := h; obtain rfl := one1 e; exact ⟨rfl, rfl⟩
  | fn f c => obtain ⟨es, e, _⟩ := h; obtain rfl := one1 e; exact ⟨rfl, rfl⟩
  | yld k => obtain ⟨l, _, e⟩ := h; obtain rfl := one1 e; exact ⟨rfl, rfl⟩
  | cst c => obtain rfl := one1 h; cases v <;> first | cases hc; done | exact ⟨rfl, rfl⟩
  | _ => cases hc
theorem Zh5 {u : AV} (h : isC u = true) : isV u = true := by cases u <;> first | rfl | cases h
theorem Zda {u : AV} {v : Value} (h1 : ∀ k, (ν k).oneCell' = true) (hc : isC u = true) (h : R Z w u ν true [v]) : R Z w (cellsL u) ν true v.cells.toList :=
  cells_of_val (Zh5 hc) h fun ha => by rw [(Zc8 h1 hc ha h).2]
theorem fill_ok {fs : List (Nat × Nat × Bool)} {places : Array (Nat × Nat)} (hp : ∀ (f o sz : Nat) (g : Bool), fs[f]? = some (o, sz, g) → places[f]? = some (o, sz)) (h1 : ∀ k, (ν k).oneCell' = true) :
    ∀ (parts : List (Nat × Operand)) (l l' : AV) (cs : List Value), (∀ p, p ∈ parts → R Z w (get p.2) ν true [ev p.2] ∧ men μ (get p.2) = true) → R Z w l ν true cs → properL l = true → men μ l = true →
      fillL fs l (parts.map fun p => (p.1, get p.2)) = some l' → ∃ cs', Instr.fill (places[·]?) cs.toArray (parts.map fun p => (p.1, ev p.2)) = some cs'.toArray ∧ R Z w l' ν true cs' ∧ men μ l' = true
  | [], l, l', cs, _, hr, _, hm, h => by
    simp only [List.map_nil, fillL, Option.some.injEq] at h
    subst h
    exact ⟨cs, rfl, hr, hm⟩
  | (f, x) :: parts, l, l', cs, hx, hr, hpr, hm, h => by
    simp only [List.map_cons, fillL] at h
    split at h
    · rename_i o sz g hf
      split at h
      · rename_i hc
        simp only [Bool.and_eq_true, Nat.ble_eq] at hc
        obtain ⟨⟨⟨hv, hpv⟩, hsz⟩, hle⟩ := hc
        have hsz := Nat.eq_of_beq_eq_true hsz
        obtain ⟨rx, mx⟩ := hx (f, x) List.mem_cons_self
        have rc := Zda h1 hv rx
        have hlen := Zfq hpv rc
        have hlcs := Zfq hpr hr
        have hsize : (ev x).cells.size = sz := by simpa [hsz] using hlen
        obtain ⟨cs', e1, e2, e3⟩ := fill_ok hp h1 parts _ l' (cs.take o ++ ((ev x).cells.toList ++ cs.drop (o + sz))) (fun p hp => hx p (List.mem_cons_of_mem _ hp))
          (Zhp (Zdl (by omega)) (Zhk hr (by omega)) (Zhp hpv rc (Zhm hr (by omega)))) (Zd8 (Zdl (by omega)) (Zd8 hpv (properL_drop hpr)))
          (Zge (Ze1 hm) (Zge (Zce mx) (Ze3 hm))) h
        refine ⟨cs', ?_, e2, e3⟩
        rw [← e1]
        simp only [List.map_cons, Instr.fill, hp f o sz g hf]
        rw [if_neg (by simp [hsize]; omega), set_cells o _ _ (by simp [hsize]; omega)]
        simp [hsize, List.append_assoc]
      · cases h
    · cases h
theorem run_mapM_ok' {α β : Type} (g : α → Sem β) (r : α → β) (w : World) : ∀ (l : List α), (∀ a, a ∈ l → (g a).run P w = .ok (r a) w) → (l.mapM g).run P w = .ok (l.map r) w
  | [], _ => by simp [Sem.run]
  | a :: l, h => by
    rw [List.mapM_cons]
    simp [Sem.run_bind, h a List.mem_cons_self, run_mapM_ok' g r w l (fun x hx => h x (List.mem_cons_of_mem _ hx)), Result.andThen, Sem.run]
theorem says_build {t : Nat} {i : TI} (ht : TOK P t i) {fs : List (Nat × Nat × Bool)} (hk : i.k = .str fs) (h1 : ∀ k, (ν k).oneCell' = true) {parts : Array (Nat × Operand)} {l' : AV} (hz : properL (cellsL i.zero) = true) (hz2 : isV i.zero = true)
    (hx : ∀ p, p ∈ parts.toList → R Z w (get p.2) ν true [ev p.2] ∧ men μ (get p.2) = true) (hmz : men μ i.zero = true) (h : fillL fs (cellsL i.zero) (parts.toList.map fun p => (p.1, get p.2)) = some l') :
    ∃ y, (Instr.build t (parts.map fun p => (p.1, ev p.2))).run P w = .ok y w ∧ R Z w (.agg l') ν true [y] ∧ men μ l' = true := by
  obtain ⟨arr, hu, hsz, hf⟩ := ht.str fs hk
  obtain ⟨inf, hi1, hi2, _, z, hz3, _, _, _, hz4⟩ := ht.info
  have hzv : (zeroValue t).run P w = .ok z w := by simp [zeroValue, typeInfo, Sem.run_bind, hi1, hz3, Result.andThen, program, Sem.run]
  let pl : Field → Nat × Nat := fun f => (f.offset, ((P.info? f.type).map (·.size)).getD 0)
  have hpl : (arr.mapM fun f => do pure (f.offset, ← sizeOf f.type) : Sem (Array (Nat × Nat))).run P w = .ok (arr.toList.map pl).toArray w := by
    rw [Array.mapM_eq_mapM_toList]
    have := run_mapM_ok' (P := P) (fun f : Field => (do pure (f.offset, ← sizeOf f.type) : Sem (Nat × Nat))) pl w arr.toList (fun f hfm => by
      obtain ⟨k, hk1, hk2⟩ := List.getElem_of_mem hfm
      have hkk : k < fs.length := by rw [← hsz]; simpa using hk1
      obtain ⟨fd, a1, a2, a3, inf', a4, a5⟩ := hf k fs[k].1 fs[k].2.1 fs[k].2.2 (by simp [hkk])
      have : fd = f := by
        have e : arr[k]? = some f := by rw [← hk2]; simp
        rw [a1] at e; exact Option.some.inj e
      subst this
      simp [sizeOf, typeInfo, Sem.run_bind, a4, Result.andThen, program, Sem.run, pl])
    rw [map_eq_pure_bind, Sem.run_bind, this]
    rfl
  have hp : ∀ (f o sz : Nat) (g : Bool), fs[f]? = some (o, sz, g) → (arr.toList.map pl).toArray[f]? = some (o, sz) := by
    intro f o sz g hfs
    obtain ⟨fd, a1, a2, a3, inf', a4, a5⟩ := hf f o sz g hfs
    simp [a1, pl, a2, a4, a5]
  obtain ⟨cs', e1, e2, e3⟩ := fill_ok (ev := ev) hp h1 parts.toList (cellsL i.zero) l' z.cells.toList hx (Zfr hz2 (hz4 Z w ν)) hz (Zce hmz) h
  refine ⟨.agg cs'.toArray, ?_, ⟨cs', rfl, e2⟩, e3⟩
  simp at e1
  simp only [Instr.build, Sem.run_bind, Sem.run_pure, hzv, run_underlying hu, Result.andThen_ok, hpl]
  simp [e1, Sem.run]
theorem Zft : ∀ (xs : List Operand), (∀ x, x ∈ xs → R Z w (get x) ν true [ev x] ∧ men μ (get x) = true) → R Z w (ofL get xs) ν true (xs.map ev) ∧ men μ (ofL get xs) = true
  | [], _ => ⟨rfl, rfl⟩
  | x :: xs, h => by
    obtain ⟨h1, h2⟩ := Zft xs fun y hy => h y (List.mem_cons_of_mem _ hy)
    obtain ⟨g1, g2⟩ := h x List.mem_cons_self
    exact ⟨⟨_, _, rfl, g1, h1⟩, by simp only [ofL, men, g2, h2, Bool.and_self]⟩
theorem equalIn_bool {t : Nat} (h : P.underlying t = some .bool) (d : Nat) (a b : Bool) (w : World) : (Op.equalIn (d + 1) t (.bool a) (.bool b)).run P w = .ok (a == b) w := by
  simp [Op.equalIn, run_underlying h]
theorem eql_bool {t : Nat} (h : P.underlying t = some .bool) (a b : Bool) (w : World) : (binOp .eql t (.bool a) (.bool b)).run P w = .ok (.bool (a == b)) w := by
  simp only [binOp]
  simp [Op.equal, Op.maxDepth, equalIn_bool h 9999 a b w]
theorem neq_bool {t : Nat} (h : P.underlying t = some .bool) (a b : Bool) (w : World) : (binOp .neq t (.bool a) (.bool b)).run P w = .ok (.bool (a != b)) w := by
  simp only [binOp]
  simp [Op.equal, Op.maxDepth, equalIn_bool h 9999 a b w, bne]
/-- THE TABLE IS RIGHT. -/
theorem evp_ok {tb : Nat → Option TI} (htb : TabOK P tb) (hmz : ∀ t i, tb t = some i → men noK i.zero = true) (o : Oper) (h1 : ∀ k, (ν k).oneCell' = true) (hg : GoodRs K Z w ν μ rs) (hx : ∀ x, x ∈ o.op.operands → R Z w (get x) ν true [ev x] ∧ men μ (get x) = true)
    {v : AV} {rd : List (Nat × Blk)} {ob : Prop} (h : evp tb get l o.op = some (v, rd, ob)) (hob : ob) (hrd : ∀ p, p ∈ rd → rs p.1 = some p.2) :
    ∃ y, (execOp ev o).run P w = .ok (.value y) w ∧ R Z w v ν true [y] ∧ men μ v = true := by
  have wrap : ∀ (s : Sem Value), (∃ y, s.run P w = .ok y w ∧ R Z w v ν true [y] ∧ men μ v = true) → ∃ y, (do pure (Next.value (← s)) : Sem Next).run P w = .ok (.value y) w ∧ R Z w v ν true [y] ∧ men μ v = true := by
    rintro s ⟨y, hy, r⟩
    exact ⟨y, by simp [Sem.run_bind, hy, Result.andThen, Sem.run], r⟩
  unfold execOp
  cases hop : o.op <;> rw [hop] at h hx <;> simp only [evp] at h
  case move x =>
    simp only [Option.some.injEq, Prod.mk.injEq] at h; obtain ⟨rfl, rfl, rfl⟩ := h
    exact ⟨_, rfl, hx x (by simp [Op.operands])⟩
  case assign x =>
    simp only [Option.some.injEq, Prod.mk.injEq] at h; obtain ⟨rfl, rfl, rfl⟩ := h
    exact ⟨_, rfl, hx x (by simp [Op.operands])⟩
  case load t a =>
    split at h
    · rename_i i ht
      exact wrap _ (says_load (htb t i ht) hg (hx a (by simp [Op.operands])) h hob hrd)
    · cases h
  case fieldAddr s x f =>
    split at h
    · rename_i i ht
      split at h
      · rename_i fs hk
        exact wrap _ (says_field (htb s i ht) hk hg (hx x (by simp [Op.operands])) h hrd)
      · cases h
    · cases h
  case indexAddr t x ix =>
    split at h
    · rename_i i ht
      split at h
      · rename_i e hk
        split at h
        · rename_i ie he
          split at h
          · rename_i z hz
            have := (hx ix (by simp [Op.operands])).1
            rw [hz] at this
            have e1 := one1 this
            refine wrap _ ?_
            rw [e1]
            exact says_index (htb t i ht) hk (htb e ie he) hg (hx x (by simp [Op.operands])) h hob hrd
          · cases h
        · cases h
      · cases h
    · cases h
  case binOp op t x y yt =>
    have hrx := (hx x (by simp [Op.operands])).1
    have hry := (hx y (by simp [Op.operands])).1
    split at h
    · rename_i a b ha hb
      rw [ha] at hrx; rw [hb] at hry
      have ea := one1 hrx
      have eb := one1 hry
      split at h
      · rename_i i ht
        split at h
        · rename_i hk
          simp only [Option.some.injEq, Prod.mk.injEq] at h; obtain ⟨rfl, rfl, rfl⟩ := h
          refine ⟨.bool (a == b), ?_, rfl, rfl⟩
          simp [ea, eb, eqGuard, Sem.run_bind, eql_bool ((htb t i ht).bool hk), Result.andThen, Sem.run]
        · rename_i hk
          simp only [Option.some.injEq, Prod.mk.injEq] at h; obtain ⟨rfl, rfl, rfl⟩ := h
          refine ⟨.bool (a != b), ?_, rfl, rfl⟩
          simp [ea, eb, eqGuard, Sem.run_bind, neq_bool ((htb t i ht).bool hk), Result.andThen, Sem.run]
        · cases h
      · cases h
    · exact wrap _ (says_bin (rs := rs) hrx hry h hob x y hrd)
  case unOp op t x =>
    have hrx := (hx x (by simp [Op.operands])).1
    split at h
    · rename_i b hb
      rw [hb] at hrx
      have e := one1 hrx
      simp only [Option.some.injEq, Prod.mk.injEq] at h; obtain ⟨rfl, rfl, rfl⟩ := h
      exact ⟨.bool (!b), by simp [e, Op.unary, Sem.run_bind, Result.andThen, Sem.run], rfl, rfl⟩
    · rename_i n hn
      rw [hn] at hrx
      have e := one1 hrx
      simp only [Option.some.injEq, Prod.mk.injEq] at h; obtain ⟨rfl, rfl, rfl⟩ := h
      exact ⟨.int .i64 (IntKind.i64.wrap (-n)), by simp [e, Op.unary, Op.intArith, Sem.run_bind, Result.andThen, Sem.run], rfl, rfl⟩
    · cases h
  case extract x n =>
    have hrx := hx x (by simp [Op.operands])
    split at h
    · rename_i lst hl
      rw [hl] at hrx
      split at h
      · rename_i hn
        simp only [Option.some.injEq, Prod.mk.injEq] at h; obtain ⟨rfl, rfl, rfl⟩ := h
        obtain ⟨es, e, r⟩ := hrx.1
        have e := one1 e
        obtain ⟨y, hy, ry⟩ := Zho r (by simpa using hn)
        exact ⟨y, by simp [e, Instr.extract, Sem.run_bind, hy, Result.andThen, Sem.run], ry, Zg7 hrx.2⟩
      · cases h
    · cases h
  case build t parts =>
    split at h
    · rename_i i ht
      split at h
      · rename_i fs hk
        split at h
        · rename_i hc
          simp only [Bool.and_eq_true] at hc
          split at h
          · rename_i l' hl'
            simp only [Option.some.injEq, Prod.mk.injEq] at h; obtain ⟨rfl, rfl, rfl⟩ := h
            exact wrap _ (says_build (htb t i ht) hk h1 hc.1.1 hc.1.2 (fun p hp => hx p.2 (by simp [Op.operands]; exact ⟨p.1, by simpa using hp⟩)) (Zbr (hmz t i ht)) hl')
          · cases h
        · cases h
      · cases h
    · cases h
  case makeFunc fn first caps =>
    cases fn <;> simp only at h <;> try (cases h; done)
    rename_i f
    split at h
    · rename_i hf
      simp only [Option.some.injEq, Prod.mk.injEq] at h; obtain ⟨rfl, rfl, rfl⟩ := h
      obtain ⟨r1, r2⟩ := Zft (get := get) (ev := ev) caps.toList fun x hxx => hx x (by simp [Op.operands]; exact .inr (by simpa using hxx))
      have hf0 : first = #[] := by simpa using hf
      exact ⟨.func (.func f) #[] (caps.map ev), by simp [Instr.makeFunc, hf0, Sem.run_bind, Result.andThen, Sem.run], ⟨caps.toList.map ev, congrArg (fun a => [Value.func (.func f) #[] a]) (Array.ext' (by simp)), r1⟩, r2⟩
    · cases h
  case nilCheck x =>
    have hrx := hx x (by simp [Op.operands])
    split at h
    · rename_i k hk
      rw [hk] at hrx
      have e := one1 hrx.1
      split at h
      · simp only [Option.some.injEq, Prod.mk.injEq] at h; obtain ⟨rfl, rfl, rfl⟩ := h
        obtain ⟨b, cells, T, hv, _⟩ := Zgx hg (Zcv rfl hrd)
        exact ⟨_, by simp only [e, hv]; rfl, by rw [← hv]; rfl, hrx.2⟩
      · cases h
    · rename_i k sz i o hk
      rw [hk] at hrx
      obtain ⟨b, f, hb, e⟩ := hrx.1
      have e := one1 e
      simp only [Option.some.injEq, Prod.mk.injEq] at h; obtain ⟨rfl, rfl, rfl⟩ := h
      exact ⟨_, by simp only [e]; rfl, ⟨b, f, hb, rfl⟩, hrx.2⟩
    · rename_i u hk
      rw [hk] at hrx
      obtain ⟨b, q, e, r⟩ := hrx.1
      have e := one1 e
      simp only [Option.some.injEq, Prod.mk.injEq] at h; obtain ⟨rfl, rfl, rfl⟩ := h
      exact ⟨_, by simp only [e]; rfl, ⟨b, q, rfl, r⟩, hrx.2⟩
    · rename_i f c hk
      rw [hk] at hrx
      obtain ⟨vs, e, r⟩ := hrx.1
      have e := one1 e
      simp only [Option.some.injEq, Prod.mk.injEq] at h; obtain ⟨rfl, rfl, rfl⟩ := h
      exact ⟨_, by simp only [e]; rfl, ⟨vs, rfl, r⟩, hrx.2⟩
    · cases h
  case slice t x lo hi mx =>
    cases mx with
    | some _ => simp only at h; cases h
    | none =>
    simp only at h
    split at h
    · rename_i i ht
      split at h
      · rename_i e hk
        split at h
        · rename_i ie he
          split at h
          · rename_i hsz
            have hsz := Nat.eq_of_beq_eq_true hsz
            split at h
            · rename_i lz hlo
              have hop2 : ∀ y, lo = some y ∨ hi = some y → R Z w (get y) ν true [ev y] := by
                intro y hy
                refine (hx y ?_).1
                rcases hy with rfl | rfl <;> simp [Op.operands]
              cases hi with
              | none => exact wrap _ (says_slice (rs := rs) (ev := ev) (get := get) (hi := none) (htb t i ht) hk (htb e ie he) hsz (hx x (by simp [Op.operands])).1 hlo (.inl ⟨rfl, rfl⟩) hop2 h hob hrd)
              | some y =>
                simp only at h
                split at h
                · rename_i z hz
                  exact wrap _ (says_slice (rs := rs) (ev := ev) (get := get) (hi := some y) (htb t i ht) hk (htb e ie he) hsz (hx x (by simp [Op.operands])).1 hlo (.inr ⟨y, z, rfl, hz, rfl⟩) hop2 h hob hrd)
                · cases h
            · cases h
          · cases h
        · cases h
      · cases h
    · cases h
  case call c =>
    obtain ⟨callee, args, argTypes⟩ := c
    simp only at h
    split at h
    · split at h
      · rename_i x t ha hty
        have ha : args = #[x] := by rw [← Array.toArray_toList (xs := args), ha]
        have hty : argTypes = #[t] := by rw [← Array.toArray_toList (xs := argTypes), hty]
        subst ha hty
        split at h
        · rename_i i ht
          split at h
          · rename_i e hk
            obtain ⟨y, hy, r⟩ := says_len (rs := rs) (htb t i ht) hk hg (hx x (by simp [Op.operands, Call.operands])).1 h o.type hrd
            exact ⟨y, by simp [resolve, invoke, builtin, Sem.run_bind, Result.andThen, Sem.run, hy], r⟩
          · cases h
        · cases h
      · cases h
    · split at h
      · rename_i x y ha
        have ha : args = #[x, y] := by rw [← Array.toArray_toList (xs := args), ha]
        subst ha
        split at h
        · rename_i a b hxa hyb
          have h3 := (hx x (by simp [Op.operands, Call.operands])).1
          have h4 := (hx y (by simp [Op.operands, Call.operands])).1
          rw [hxa] at h3; rw [hyb] at h4
          have e3 := one1 h3
          have e4 := one1 h4
          simp only [Option.some.injEq, Prod.mk.injEq] at h; obtain ⟨rfl, rfl, rfl⟩ := h
          refine ⟨.int .i64 (max a b), ?_, rfl, rfl⟩
          have : (if b > a then b else a) = max a b := by omega
          simp [resolve, invoke, builtin, Builtin.max_, Builtin.max2, Sem.run_bind, Result.andThen, Sem.run, e3, e4, this]
        · cases h
      · rename_i x y z ha
        have ha : args = #[x, y, z] := by rw [← Array.toArray_toList (xs := args), ha]
        subst ha
        split at h
        · rename_i a b c hxa hyb hzc
          have h3 := (hx x (by simp [Op.operands, Call.operands])).1
          have h4 := (hx y (by simp [Op.operands, Call.operands])).1
          have h5 := (hx z (by simp [Op.operands, Call.operands])).1
          rw [hxa] at h3; rw [hyb] at h4; rw [hzc] at h5
          have e3 := one1 h3
          have e4 := one1 h4
          have e5 := one1 h5
          simp only [Option.some.injEq, Prod.mk.injEq] at h; obtain ⟨rfl, rfl, rfl⟩ := h
          refine ⟨.int .i64 (max (max a b) c), ?_, rfl, rfl⟩
          have t1 : (if b > a then b else a) = max a b := by omega
          have t2 : (if c > max a b then c else max a b) = max (max a b) c := by omega
          simp [resolve, invoke, builtin, Builtin.max_, Builtin.max2, Sem.run_bind, Result.andThen, Sem.run, e3, e4, e5, t1, t2]
        · cases h
      · cases h
    · split at h
      · rename_i x y ha
        have ha : args = #[x, y] := by rw [← Array.toArray_toList (xs := args), ha]
        subst ha
        split at h
        · rename_i a b hxa hyb
          have h3 := (hx x (by simp [Op.operands, Call.operands])).1
          have h4 := (hx y (by simp [Op.operands, Call.operands])).1
          rw [hxa] at h3; rw [hyb] at h4
          have e3 := one1 h3
          have e4 := one1 h4
          simp only [Option.some.injEq, Prod.mk.injEq] at h; obtain ⟨rfl, rfl, rfl⟩ := h
          refine ⟨.int .i64 (min a b), ?_, rfl, rfl⟩
          have : (if b < a then b else a) = min a b := by omega
          simp [resolve, invoke, builtin, Builtin.min_, Builtin.min2, Sem.run_bind, Result.andThen, Sem.run, e3, e4, this]
        · cases h
      · rename_i x y z ha
        have ha : args = #[x, y, z] := by rw [← Array.toArray_toList (xs := args), ha]
        subst ha
        split at h
        · rename_i a b c hxa hyb hzc
          have h3 := (hx x (by simp [Op.operands, Call.operands])).1
          have h4 := (hx y (by simp [Op.operands, Call.operands])).1
          have h5 := (hx z (by simp [Op.operands, Call.operands])).1
          rw [hxa] at h3; rw [hyb] at h4; rw [hzc] at h5
          have e3 := one1 h3
          have e4 := one1 h4
          have e5 := one1 h5
          simp only [Option.some.injEq, Prod.mk.injEq] at h; obtain ⟨rfl, rfl, rfl⟩ := h
          refine ⟨.int .i64 (min (min a b) c), ?_, rfl, rfl⟩
          have t1 : (if b < a then b else a) = min a b := by omega
          have t2 : (if c < min a b then c else min a b) = min (min a b) c := by omega
          simp [resolve, invoke, builtin, Builtin.min_, Builtin.min2, Sem.run_bind, Result.andThen, Sem.run, e3, e4, e5, t1, t2]
        · cases h
      · cases h
    · cases h
  all_goals first | (cases h; done) | (simp at h; done)
end
end Go.Proofs.Ytbcghiagomkadaa.Cal
namespace Go.Proofs.Ytbcghiagomkadaa.Cal
open Go
def upN (ν : Nat → Value) (k : Nat) (x : Value) : Nat → Value := fun j => if j = k then x else ν j
theorem upN_same {ν : Nat → Value} {k : Nat} {x : Value} : upN ν k x k = x := by simp [upN]
theorem Zdj {ν : Nat → Value} {k j : Nat} {x : Value} (h : j ≠ k) : upN ν k x j = ν j := by simp [upN, h]
theorem Zb0 {μ : Nat → Bool} {ν : Nat → Value} {k : Nat} {x : Value} (h : μ k = false) : ∀ j, μ j = true → upN ν k x j = ν j := fun j hj => Zdj (by rintro rfl; rw [h] at hj; cases hj)
theorem Zcs {ν : Nat → Value} {k : Nat} {x : Value} (h : ∀ j, (ν j).oneCell' = true) (hx : x.oneCell' = true) : ∀ j, (upN ν k x j).oneCell' = true := fun j => by
  unfold upN; split
  · exact hx
  · exact h j
theorem Zby {μ : Nat → Bool} {kn : Option Nat} : ∀ k, μ k = true → addK μ kn k = true := fun k h => by
  cases kn with
  | none => exact h
  | some j => simp [addK, h]
theorem Zbx {μ : Nat → Bool} {k : Nat} : addK μ (some k) k = true := by simp [addK, Nat.beq_refl]
theorem Zer {μ : Nat → Bool} {k : Nat} (h : μ k = true) : addK μ (some k) = μ := by
  funext j
  simp only [addK]
  cases hj : Nat.beq j k with
  | false => simp
  | true => have := Nat.eq_of_beq_eq_true hj; subst this; simp [h]
structure OpSem (P : Program) (o : Oper) (get : Operand → AV) (val : AV) (rd : List (Nat × Blk)) (wr : List (Nat × Option Blk)) (kn : Option Nat) : Prop where
  sem : ∀ (K Z : Nat → Prop) (ν : Nat → Value) (w : World) (ev : Operand → Value) (μ : Nat → Bool) (rs : Rs), (∀ k, (ν k).oneCell' = true) → GoodRs K Z w ν μ rs → (∀ b, Z b → K b) → (∀ b, K b → b < w.heap.size) →
    (∀ x, x ∈ o.op.operands → R Z w (get x) ν true [ev x] ∧ men μ (get x) = true) → (∀ p, p ∈ rd → rs p.1 = some p.2) → (∀ k, kn = some k → μ k = false) →
    ∃ y w' ν' Z', ((execOp ev o).run P w = .ok (.value y) w' ∨ ((execOp ev o).run P w = .ok .skip w' ∧ y = undef)) ∧ Step K Z w Z' w' ∧ (∀ k, μ k = true → ν' k = ν k) ∧ (∀ k, (ν' k).oneCell' = true) ∧
      GoodRs (un K Z') Z' w' ν' (addK μ kn) (updL rs wr) ∧ R Z' w' val ν' true [y] ∧ men (addK μ kn) val = true ∧ (∀ b, Z' b → b < w'.heap.size)
theorem Zdu {P : Program} {o : Oper} {get : Operand → AV} {val : AV} {rd : List (Nat × Blk)}
    (h : ∀ (K Z : Nat → Prop) (ν : Nat → Value) (w : World) (ev : Operand → Value) (μ : Nat → Bool) (rs : Rs), (∀ k, (ν k).oneCell' = true) → GoodRs K Z w ν μ rs → (∀ x, x ∈ o.op.operands → R Z w (get x) ν true [ev x] ∧ men μ (get x) = true) → (∀ p, p ∈ rd → rs p.1 = some p.2) →
      ∃ y, (execOp ev o).run P w = .ok (.value y) w ∧ R Z w val ν true [y] ∧ men μ val = true) : OpSem P o get val rd [] none :=
  ⟨fun K Z ν w ev μ rs h1 hg hzk hkl hx hrd hkn => by
    obtain ⟨y, hy, hr, hm⟩ := h K Z ν w ev μ rs h1 hg hx hrd
    exact ⟨y, w, ν, Z, .inl hy, Step.refl K Z w, fun _ _ => rfl, h1, by rw [Zbq hzk]; exact hg, hr, hm, fun b hb => hkl b (hzk b hb)⟩⟩
section
variable {P : Program} {K Z : Nat → Prop} {ν : Nat → Value} {w : World} {get : Operand → AV} {ev : Operand → Value} {μ : Nat → Bool} {rs : Rs}
theorem Zcq (hkl : ∀ b, K b → b < w.heap.size) (o : Obj) : Step K Z w Z (w.alloc o) :=
  ⟨⟨rfl, rfl, rfl, by simp, fun b hb => RowKit.Below.heap_alloc _ _ _ (hkl b hb)⟩, fun _ h => h, fun _ h => .inl h⟩
theorem Zbw (o : Obj) {y : Nat} (hy : y < w.heap.size) : (w.alloc o).heap[y]? = w.heap[y]? := RowKit.Below.heap_alloc _ _ _ hy
theorem Zck (o : Obj) : (w.alloc o).heap[w.heap.size]? = some o := World.alloc_heap_new w o
/-- A new resource over a new block. -/
theorem Zea (h : GoodRs K Z w ν μ rs) (hzk : ∀ b, Z b → K b) (hkl : ∀ b, K b → b < w.heap.size) {kn : Nat} (hk : μ kn = false) {w' : World} (hsz : w.heap.size ≤ w'.heap.size) (hold : ∀ y, y < w.heap.size → w'.heap[y]? = w.heap[y]?) {x : Value} {B : Blk} {F : Nat → Prop}
    (hs : sat Z w' (upN ν kn x) x F B) (hm : menB (addK μ (some kn)) B) (hF : ∀ y, F y → w.heap.size ≤ y ∧ y < w'.heap.size) : GoodRs K Z w' (upN ν kn x) (addK μ (some kn)) (updL rs [(kn, some B)]) := by
  obtain ⟨Ft, h⟩ := h
  refine ⟨fun k => if k = kn then F else Ft k, fun k b hkb => ?_⟩
  have hold' : ∀ k b, k ≠ kn → updL rs [(kn, some B)] k = some b → rs k = some b := by
    intro k b hne hkb
    have : lko [(kn, some B)] k = none := Zdy (by intro p hp; simp at hp; subst hp; exact Ne.symm hne)
    simp only [updL, this] at hkb
    exact hkb
  by_cases hkk : k = kn
  · subst hkk
    have : updL rs [(k, some B)] k = some B := by simp [updL, lko, Nat.beq_refl]
    rw [this] at hkb
    obtain rfl : B = b := Option.some.inj hkb
    dsimp only
    rw [if_pos rfl, upN_same]
    refine ⟨Zbx, hm, hs, fun y hy => ⟨fun hK => ?_, (hF y hy).2⟩, fun k' b' hne hk' y hy => ?_⟩
    · have := hkl y hK; have := (hF y hy).1; omega
    · have h0 := hold' k' b' (Ne.symm hne) hk'
      rw [if_neg (Ne.symm hne)]
      intro hf
      have := ((h k' b' h0).2.2.2.1 y hf).2
      have := (hF y hy).1
      omega
  · have h0 := hold' k b hkk hkb
    obtain ⟨g1, g2, g3, g4, g5⟩ := h k b h0
    simp only [if_neg hkk]
    rw [Zdj hkk]
    refine ⟨Zby k g1, Zcu Zby g2, Zbo (fun _ h => h) (fun b hb => hold b (hkl b (hzk b hb))) (fun y hy => hold y (g4 y hy).2) (Zdi (Zb0 hk) g2 g3), fun y hy => ⟨(g4 y hy).1, Nat.lt_of_lt_of_le (g4 y hy).2 hsz⟩, fun k' b' hne hk' y hy => ?_⟩
    by_cases hk2 : k' = kn
    · subst hk2
      rw [if_pos rfl]
      intro hf
      have := (hF y hf).1; have := (g4 y hy).2; omega
    · rw [if_neg hk2]
      exact g5 k' b' hne (hold' k' b' hk2 hk') y hy
/-- One resource turns into another (under its own key or a new one); what it lay over may have been written, new blocks may have come. -/
theorem Zdz (h : GoodRs K Z w ν μ rs) (hzk : ∀ b, Z b → K b) (hkl : ∀ b, K b → b < w.heap.size) {k0 : Nat} {b0 : Blk} (hk0 : rs k0 = some b0) :
    ∃ F0, sat Z w ν (ν k0) F0 b0 ∧ menB μ b0 ∧ μ k0 = true ∧ (∀ y, F0 y → ¬ K y ∧ y < w.heap.size) ∧
      ∀ (w' : World) (ν' : Nat → Value) (kn : Nat) (B : Blk) (F' : Nat → Prop), w.heap.size ≤ w'.heap.size → (∀ y, ¬ F0 y → y < w.heap.size → w'.heap[y]? = w.heap[y]?) → (∀ k, μ k = true → ν' k = ν k) → (kn = k0 ∨ μ kn = false) →
        sat Z w' ν' (ν' kn) F' B → menB (addK μ (some kn)) B → (∀ y, F' y → (F0 y ∨ w.heap.size ≤ y) ∧ y < w'.heap.size) → GoodRs K Z w' ν' (addK μ (some kn)) (updL rs [(kn, some B), (k0, none)]) := by
  obtain ⟨Ft, h⟩ := h
  obtain ⟨a1, a2, a3, a4, a5⟩ := h k0 b0 hk0
  refine ⟨Ft k0, a3, a2, a1, a4, ?_⟩
  intro w' ν' kn B F' hsz hold hν hkn hs hm hF
  have hold' : ∀ k b, k ≠ kn → updL rs [(kn, some B), (k0, none)] k = some b → rs k = some b ∧ k ≠ k0 := by
    intro k b hne hkb
    by_cases hk : k = k0
    · subst hk
      have hb : Nat.beq k kn = false := by cases hb : Nat.beq k kn with
        | false => rfl
        | true => exact absurd (Nat.eq_of_beq_eq_true hb) hne
      simp [updL, lko, hb, Nat.beq_refl] at hkb
    · have : lko [(kn, some B), (k0, none)] k = none := Zdy (by intro p hp; simp at hp; rcases hp with rfl | rfl <;> first | exact Ne.symm hne | exact Ne.symm hk)
      simp only [updL, this] at hkb
      exact ⟨hkb, hk⟩
  refine ⟨fun k => if k = kn then F' else Ft k, fun k b hkb => ?_⟩
  by_cases hkk : k = kn
  · subst hkk
    have : updL rs [(k, some B), (k0, none)] k = some B := by simp [updL, lko, Nat.beq_refl]
    rw [this] at hkb
    obtain rfl : B = b := Option.some.inj hkb
    dsimp only
    rw [if_pos rfl]
    refine ⟨Zbx, hm, hs, fun y hy => ⟨fun hK => ?_, (hF y hy).2⟩, fun k' b' hne hk' y hy => ?_⟩
    · rcases (hF y hy).1 with h1 | h1
      · exact (a4 y h1).1 hK
      · have := hkl y hK; omega
    · obtain ⟨h0, hne0⟩ := hold' k' b' (Ne.symm hne) hk'
      rw [if_neg (Ne.symm hne)]
      intro hf
      rcases (hF y hy).1 with h1 | h1
      · exact a5 k' b' (Ne.symm hne0) h0 y h1 hf
      · have := ((h k' b' h0).2.2.2.1 y hf).2; omega
  · obtain ⟨h0, hne0⟩ := hold' k b hkk hkb
    obtain ⟨g1, g2, g3, g4, g5⟩ := h k b h0
    have hap : ∀ y, Ft k y → ¬ Ft k0 y := fun y hy => g5 k0 b0 hne0 hk0 y hy
    simp only [if_neg hkk]
    rw [hν k g1]
    refine ⟨Zby k g1, Zcu Zby g2, Zbo (fun _ h => h) (fun b hb => hold b (fun hf => (a4 b hf).1 (hzk b hb)) (hkl b (hzk b hb))) (fun y hy => hold y (hap y hy) (g4 y hy).2) (Zdi hν g2 g3),
      fun y hy => ⟨(g4 y hy).1, Nat.lt_of_lt_of_le (g4 y hy).2 hsz⟩, fun k' b' hne hk' y hy => ?_⟩
    by_cases hk2 : k' = kn
    · subst hk2
      rw [if_pos rfl]
      intro hf
      rcases (hF y hf).1 with h1 | h1
      · exact hap y hy h1
      · have := (g4 y hy).2; omega
    · rw [if_neg hk2]
      exact g5 k' b' hne (hold' k' b' hk2 hk').1 y hy
end
end Go.Proofs.Ytbcghiagomkadaa.Cal
namespace Go.Proofs.Ytbcghiagomkadaa.Cal
open Go
section
variable {P : Program} {w : World}
/-- The cells of element i are written anew. -/
theorem row_set {x : Value} {sz n : Nat} {g : Nat → List Value → Prop} {F : Nat → Prop} (h : row w x sz n g F) {i o : Nat} (hi : i < n) {vs : List Value} (ho : o + vs.length ≤ sz) (h1 : ∀ v, v ∈ vs → v.oneCell' = true) :
    ∃ b f, baseOf x = some (b, f) ∧ F b ∧ (storeCells ⟨b, f + (i * sz + o), none⟩ vs).run P w = .ok () (w.setRow b (match w.heap[b]? with | some (.cells c _ _) => (c.toList.take (f + (i * sz + o)) ++ vs ++ c.toList.drop (f + (i * sz + o) + vs.length)).toArray | _ => #[])) ∧
      ∀ w', w' = (w.setRow b (match w.heap[b]? with | some (.cells c _ _) => (c.toList.take (f + (i * sz + o)) ++ vs ++ c.toList.drop (f + (i * sz + o) + vs.length)).toArray | _ => #[])) →
        (∀ y, y ≠ b → w'.heap[y]? = w.heap[y]?) ∧ w'.heap.size = w.heap.size ∧ w'.os = w.os ∧ w'.tape = w.tape ∧ w'.output = w.output ∧
        row w' x sz n (fun j es => ∃ es0, g j es0 ∧ es0.length = sz ∧ es = if j = i then es0.take o ++ vs ++ es0.drop (o + vs.length) else es0) F := by
  rcases h with ⟨_, h0, _⟩ | ⟨b, f, cap, cells, T, hx, hc1, hc2, hh, hsz, hF, hel⟩
  · omega
  · subst hx
    have hcap : i * sz + sz ≤ cap * sz := by
      rw [← Nat.succ_mul]; exact Nat.mul_le_mul_right _ (by omega)
    have hrun := run_storeCells_at (P := P) b (f + (i * sz + o)) T vs 0 cells w hh (by omega) h1
    simp only [Nat.add_zero] at hrun
    refine ⟨b, f, rfl, (hF b).2 rfl, by rw [hh]; exact hrun, ?_⟩
    rintro w' rfl
    rw [hh]
    refine ⟨fun y hy => setRow_other w b y _ hy, by simp, rfl, rfl, rfl, ?_⟩
    have hnew := setRow_heap w b cells (cells.toList.take (f + (i * sz + o)) ++ vs ++ cells.toList.drop (f + (i * sz + o) + vs.length)).toArray T (0, 0) hh
    refine .inr ⟨b, f, cap, _, T, rfl, hc1, hc2, hnew, by simp; omega, hF, fun j hj => ?_⟩
    obtain ⟨es0, e1, e2, e3⟩ := hel j hj
    refine ⟨_, ⟨es0, e1, e2, rfl⟩, ?_, fun q c hq => ?_⟩
    · split
      · simp; omega
      · exact e2
    · simp only [List.getElem?_toArray]
      by_cases hji : j = i
      · subst hji
        rw [if_pos rfl] at hq
        by_cases hq1 : q < o
        · rw [List.append_assoc, List.getElem?_append_left (by simp; omega), List.getElem?_take, if_pos hq1] at hq
          rw [List.append_assoc, List.getElem?_append_left (by simp; omega), List.getElem?_take, if_pos (by omega)]
          have := e3 q c hq
          simpa using this
        · by_cases hq2 : q < o + vs.length
          · rw [List.append_assoc, List.getElem?_append_right (by simp; omega), List.getElem?_append_left (by simp; omega)] at hq
            rw [List.append_assoc, List.getElem?_append_right (by simp; omega), List.getElem?_append_left (by simp; omega)]
            have ea : q - (List.take o es0).length = q - o := by simp; omega
            have eb : f + (j * sz + q) - (List.take (f + (j * sz + o)) cells.toList).length = q - o := by simp; omega
            rw [ea] at hq; rw [eb]; exact hq
          · rw [List.append_assoc, List.getElem?_append_right (by simp; omega), List.getElem?_append_right (by simp; omega), List.getElem?_drop] at hq
            rw [List.append_assoc, List.getElem?_append_right (by simp; omega), List.getElem?_append_right (by simp; omega), List.getElem?_drop]
            have ea : o + vs.length + (q - (List.take o es0).length - vs.length) = q := by simp; omega
            have eb : f + (j * sz + o) + vs.length + (f + (j * sz + q) - (List.take (f + (j * sz + o)) cells.toList).length - vs.length) = f + (j * sz + q) := by simp; omega
            rw [ea] at hq; rw [eb]
            simpa using e3 q c hq
      · rw [if_neg hji] at hq
        have hqs : q < sz := by rw [← e2]; exact (List.getElem?_eq_some_iff.1 hq).1
        have := e3 q c hq
        rcases Nat.lt_or_ge j i with hlt | hge
        · have hm : j * sz + sz ≤ i * sz := by rw [← Nat.succ_mul]; exact Nat.mul_le_mul_right _ hlt
          rw [List.append_assoc, List.getElem?_append_left (by simp; omega), List.getElem?_take, if_pos (by omega)]
          simpa using this
        · have hgt : i < j := by omega
          have hm : i * sz + sz ≤ j * sz := by rw [← Nat.succ_mul]; exact Nat.mul_le_mul_right _ hgt
          rw [List.append_assoc, List.getElem?_append_right (by simp; omega), List.getElem?_append_right (by simp; omega), List.getElem?_drop]
          have eb : f + (i * sz + o) + vs.length + (f + (j * sz + q) - (List.take (f + (i * sz + o)) cells.toList).length - vs.length) = f + (j * sz + q) := by simp; omega
          rw [eb]
          simpa using this
theorem Zc6 (sz m : Nat) (A : Option Addr) (c : Nat) (news : List Value) (hl : news.length = m * sz) (hA : ∀ ad, A = some ad → ∀ j u, news[j]? = some u → w.cell? (ad.add j) = some u) (hn : A = none → news = []) :
    (Builtin.firstCells sz m (.slice A m c)).run P w = .ok news.toArray w := by
  cases A with
  | none => simp [Builtin.firstCells, hn rfl, Sem.run]
  | some ad =>
    have := run_loadCells_list (P := P) w ad news (hA ad rfl)
    rw [hl] at this
    simpa [Builtin.firstCells] using this
/-- append: whether there is room or not. -/
theorem row_append {t e ty : Nat} {i ie : TI} (ht : TOK P t i) (hk : i.k = .slc e) (he : TOK P e ie) {x : Value} {n : Nat} {g : Nat → List Value → Prop} {F : Nat → Prop} (h : row w x ie.size n g F) (hsz : 0 < ie.size)
    {A : Option Addr} {m c : Nat} {news : List Value} (hl : news.length = m * ie.size) (hA : ∀ ad, A = some ad → ∀ j u, news[j]? = some u → w.cell? (ad.add j) = some u) (hn : A = none → news = []) (h1 : ∀ v, v ∈ news → v.oneCell' = true)
    (hlim : n + m ≤ lim) (hb : (n + m) * ie.bytes ≤ lim) (hFw : ∀ y, F y → y < w.heap.size) :
    ∃ x' w' F', (Builtin.append_ #[t, t] ty #[x, .slice A m c]).run P w = .ok x' w' ∧ row w' x' ie.size (n + m) (fun j es => if j < n then g j es else es = (news.drop ((j - n) * ie.size)).take ie.size) F' ∧
      (∀ y, ¬ F y → y < w.heap.size → w'.heap[y]? = w.heap[y]?) ∧ w.heap.size ≤ w'.heap.size ∧ w'.os = w.os ∧ w'.tape = w.tape ∧ w'.output = w.output ∧ (∀ y, F' y → (F y ∨ w.heap.size ≤ y) ∧ y < w'.heap.size) ∧ x'.oneCell' = true := by
  obtain ⟨inf, hi1, hi2, hi3, z, hz1, hzs, _, _, hz2⟩ := he.info
  have hu : (underlying t).run P w = .ok (.slice e) w := run_underlying (ht.slc e hk) w
  have hsize : (sizeOf e).run P w = .ok ie.size w := Zb2 he w
  have hlim' : lim = 140737488355328 := rfl
  have hf := Zc6 (P := P) (w := w) ie.size m A c news hl hA hn
  obtain ⟨B, cap, hx⟩ := Zf8 h
  subst hx
  by_cases hroom : n + m ≤ cap
  · -- in place
    rcases h with ⟨hnil, hn0, hF0⟩ | ⟨b, f, cap', cells, T, hx, hc1, hc2, hh, hcs, hF, hel⟩
    · simp only [Value.slice.injEq] at hnil
      obtain ⟨rfl, rfl, rfl⟩ := hnil
      obtain rfl : m = 0 := by omega
      have hnn : news = [] := List.eq_nil_of_length_eq_zero (by simpa using hl)
      subst hnn
      refine ⟨.slice none 0 0, w, F, ?_, .inl ⟨rfl, rfl, hF0⟩, fun _ _ _ => rfl, Nat.le_refl _, rfl, rfl, rfl, fun y hy => absurd hy (hF0 y), rfl⟩
      simp [Builtin.append_, Sem.run_bind, hu, hsize, Result.andThen, Builtin.lenOf, hf, Sem.run]
    · simp only [Value.slice.injEq] at hx
      obtain ⟨rfl, _, rfl⟩ := hx
      have hmul : (n + m) * ie.size ≤ cap * ie.size := Nat.mul_le_mul_right _ hroom
      have hadd : (n + m) * ie.size = n * ie.size + m * ie.size := Nat.add_mul ..
      have hst := run_storeCells_at (P := P) b (f + n * ie.size) T news 0 cells w hh (by omega) h1
      simp only [Nat.add_zero] at hst
      have ead : (⟨b, f, none⟩ : Addr).add (n * ie.size) = ⟨b, f + n * ie.size, none⟩ := Addr.add_lit ..
      have hnew := setRow_heap w b cells (cells.toList.take (f + n * ie.size) ++ news ++ cells.toList.drop (f + n * ie.size + news.length)).toArray T (0, 0) hh
      refine ⟨.slice (some ⟨b, f, none⟩) (n + m) cap, _, F, ?_, .inr ⟨b, f, cap, _, T, rfl, hroom, by omega, hnew, by simp; omega, hF, fun j hj => ?_⟩, fun y hy _ => setRow_other w b y _ (fun e => hy ((hF y).2 e)), by simp, rfl, rfl, rfl, fun y hy => ⟨.inl hy, by simp; exact hFw y hy⟩, rfl⟩
      · simp [Builtin.append_, Sem.run_bind, hu, hsize, Result.andThen, Builtin.lenOf, hf, hroom, ead, hst, Sem.run]
      · by_cases hjn : j < n
        · obtain ⟨es, e1, e2, e3⟩ := hel j hjn
          have hm : j * ie.size + ie.size ≤ n * ie.size := by rw [← Nat.succ_mul]; exact Nat.mul_le_mul_right _ hjn
          refine ⟨es, by dsimp only; rw [if_pos hjn]; exact e1, e2, fun q v hq => ?_⟩
          have hqs : q < ie.size := by rw [← e2]; exact (List.getElem?_eq_some_iff.1 hq).1
          simp only [List.getElem?_toArray]
          rw [List.append_assoc, List.getElem?_append_left (by simp; omega), List.getElem?_take, if_pos (by omega)]
          simpa using e3 q v hq
        · have hm : (j - n) * ie.size + ie.size ≤ m * ie.size := by rw [← Nat.succ_mul]; exact Nat.mul_le_mul_right _ (by omega)
          have hj2 : j * ie.size = n * ie.size + (j - n) * ie.size := by rw [← Nat.add_mul]; congr 1; omega
          refine ⟨_, by dsimp only; rw [if_neg hjn], by simp; omega, fun q v hq => ?_⟩
          have hqs : q < ie.size := by have := (List.getElem?_eq_some_iff.1 hq).1; simp at this; omega
          rw [List.getElem?_take, if_pos hqs, List.getElem?_drop] at hq
          simp only [List.getElem?_toArray]
          rw [List.append_assoc, List.getElem?_append_right (by simp; omega), List.getElem?_append_left (by simp; omega)]
          rw [show f + (j * ie.size + q) - (List.take (f + n * ie.size) cells.toList).length = (j - n) * ie.size + q from by simp; omega]
          exact hq
  · -- a new block
    have hold : ∃ old : List Value, old.length = n * ie.size ∧ (Builtin.firstCells ie.size n (.slice B n cap)).run P w.drew = .ok old.toArray w.drew ∧ ∀ j, j < n → ∃ es, g j es ∧ es.length = ie.size ∧ ∀ (q : Nat) v, es[q]? = some v → old[j * ie.size + q]? = some v := by
      rcases h with ⟨hnil, hn0, hF0⟩ | ⟨b, f, cap', cells, T, hx, hc1, hc2, hh, hcs, hF, hel⟩
      · simp only [Value.slice.injEq] at hnil
        obtain ⟨rfl, rfl, rfl⟩ := hnil
        exact ⟨[], by simp, by simp [Builtin.firstCells, Sem.run], fun j hj => by omega⟩
      · simp only [Value.slice.injEq] at hx
        obtain ⟨rfl, _, rfl⟩ := hx
        have hmul : n * ie.size ≤ cap * ie.size := Nat.mul_le_mul_right _ hc1
        refine ⟨(cells.toList.drop f).take (n * ie.size), by simp; omega, ?_, fun j hj => ?_⟩
        · refine Zc6 ie.size n _ cap _ (by simp; omega) (fun ad had j u hu => ?_) (by simp)
          simp only [Option.some.injEq] at had
          subst had
          have hjl : j < n * ie.size := by have := (List.getElem?_eq_some_iff.1 hu).1; simp at this; omega
          rw [List.getElem?_take, if_pos hjl, List.getElem?_drop] at hu
          rw [Addr.add_lit, World.cell?_drew]
          exact Zcx hh (by simpa using hu)
        · obtain ⟨es, e1, e2, e3⟩ := hel j hj
          have hm : j * ie.size + ie.size ≤ n * ie.size := by rw [← Nat.succ_mul]; exact Nat.mul_le_mul_right _ hj
          refine ⟨es, e1, e2, fun q v hq => ?_⟩
          have hqs : q < ie.size := by rw [← e2]; exact (List.getElem?_eq_some_iff.1 hq).1
          rw [List.getElem?_take, if_pos (by omega), List.getElem?_drop]
          simpa using e3 q v hq
    obtain ⟨old, ho1, ho2, ho3⟩ := hold
    have hf2 : (Builtin.firstCells ie.size m (.slice A m c)).run P w.drew = .ok news.toArray w.drew := Zc6 (w := w.drew) ie.size m A c news hl (fun ad had j u hu => by rw [World.cell?_drew]; exact hA ad had j u hu) hn
    have hcapn : cap < n + m := by omega
    have hfit := growslice_fits (bytes := ie.bytes) hcapn (by omega)
    have hneed : ¬ ((n + m : Nat) : Int) > IntKind.i64.max := by
      have : IntKind.i64.max = 9223372036854775807 := by decide
      rw [this]; omega
    have hti : ∀ w : World, (typeInfo e).run P w = .ok inf w := fun w => by simp [typeInfo, Sem.run_bind, hi1, Result.andThen, program, Sem.run]
    have hzv : ∀ w : World, (zeroValue e).run P w = .ok z w := fun w => by simp [zeroValue, Sem.run_bind, hti, hz1, Result.andThen, Sem.run]
    let nc := grownCap w (n + m) cap e
    have hnc : n + m ≤ nc := grownCap_ge w _ _ _
    have hz : z.cells.size = ie.size := hzs
    let rest := Builtin.zeroCells z.cells (nc - (n + m))
    have hrest : rest.size = (nc - (n + m)) * ie.size := by simp [rest, Builtin.zeroCells, hz]
    refine ⟨.slice (some ⟨w.heap.size, 0, none⟩) (n + m) nc, w.drew.alloc (.cells (old.toArray ++ news.toArray ++ rest) e), fun y => y = w.heap.size, ?_, .inr ⟨w.heap.size, 0, nc, _, e, rfl, hnc, by omega, Zck (w := w.drew) _, ?_, fun _ => Iff.rfl, fun j hj => ?_⟩,
      fun y _ hy => Zbw (w := w.drew) _ hy, by simp, rfl, rfl, rfl, fun y hy => by subst hy; exact ⟨.inr (Nat.le_refl _), by simp⟩, rfl⟩
    · have hdrew : ∀ q : Question, (choose q).run P w = if q.forced then .ok 0 w else .ok (q.cut (w.tape w.drawn q)) w.drew := fun q => rfl
      have hch : (choose (.appendCap (n + m) cap e)).run P w = .ok nc w.drew := rfl
      have hask : ∀ (k : Nat) (w : World), (askRoom k).run P w = .ok () w := fun k w => by
        unfold askRoom; split <;> simp [mark, Sem.run]
      simp only [Builtin.append_, Sem.run_bind, Sem.run_pure, hu, hsize, Result.andThen_ok, List.getElem?_toArray, List.getElem?_cons_zero, List.getElem?_cons_succ, Builtin.lenOf]
      have hzf : (match (TypeDesc.slice e : TypeDesc) with | .int _ => true | _ => false) = false := rfl
      simp only [hu, Result.andThen_ok, Bool.false_eq_true, if_false, Sem.run_bind, Sem.run_pure, Builtin.lenOf, hroom]
      have hn1 : ¬ (9223372036854775807 : Int) < (n : Int) + (m : Int) := by omega
      have hfit' : ¬ 281474976710656 < Builtin.nextslicecap (n + m) cap * ie.bytes := by omega
      have hfo : (Question.appendCap (n + m) cap e).forced = false := rfl
      simp [hn1, hfit', hfo, hti, hi3, hch, hask, ho2, hf2, hzv, Sem.run_bind, Result.andThen, Sem.run, newRow, newObj, rest, hroom]
      refine ⟨rfl, ?_⟩
      have e1 : (Question.appendCap (n + m) cap e).cut (w.tape w.drawn (Question.appendCap (n + m) cap e)) = nc := rfl
      rw [e1]
      have e2 : old.toArray ++ (news.toArray ++ Builtin.zeroCells z.cells (nc - (n + m))) = (old ++ news).toArray ++ Builtin.zeroCells z.cells (nc - (n + m)) := by apply Array.ext'; simp
      rw [e2]
      rfl
    · simp [ho1, hl, hrest]
      have : nc = (n + m) + (nc - (n + m)) := by omega
      rw [this, Nat.add_mul, Nat.add_mul]
      simp
    · by_cases hjn : j < n
      · obtain ⟨es, e1, e2, e3⟩ := ho3 j hjn
        refine ⟨es, by dsimp only; rw [if_pos hjn]; exact e1, e2, fun q v hq => ?_⟩
        have := e3 q v hq
        have hlt := (List.getElem?_eq_some_iff.1 this).1
        simp only [Nat.zero_add]
        rw [Array.getElem?_append_left (by simp; omega), Array.getElem?_append_left (by simpa using hlt)]
        simpa using this
      · have hm : (j - n) * ie.size + ie.size ≤ m * ie.size := by rw [← Nat.succ_mul]; exact Nat.mul_le_mul_right _ (by omega)
        have hj2 : j * ie.size = n * ie.size + (j - n) * ie.size := by rw [← Nat.add_mul]; congr 1; omega
        refine ⟨_, by dsimp only; rw [if_neg hjn], by simp; omega, fun q v hq => ?_⟩
        have hqs : q < ie.size := by have := (List.getElem?_eq_some_iff.1 hq).1; simp at this; omega
        rw [List.getElem?_take, if_pos hqs, List.getElem?_drop] at hq
        simp only [Nat.zero_add]
        rw [Array.getElem?_append_left (by simp; omega), Array.getElem?_append_right (by simp; omega)]
        rw [show j * ie.size + q - old.toArray.size = (j - n) * ie.size + q from by simp; omega]
        simpa using hq
end
end Go.Proofs.Ytbcghiagomkadaa.Cal
