/- Own texts of the proof, merged, in order. -/
import Derived.MapKept
import Derived.Test.YtbcghiagomkadaaS6
set_option linter.unusedVariables false
set_option linter.unusedSimpArgs false
namespace Go.Proofs.Ytbcghiagomkadaa.Cal
open Go
section
variable {P : Program} {get : Operand → AV} {l : List (Nat × Option Blk)} {tb : Nat → Option TI}
theorem run_copy_gen {w : World} {t e : Nat} {i ie : TI} (ht : TOK P t i) (hk : i.k = .slc e) (he : TOK P e ie) (hsz : ie.size = 1) {base A : Option Addr} {n cap m c : Nat} {ty : TypeId} {cs : List Value} (hcs : cs.length = Nat.min m n) (hA : ∀ a, A = some a → ∀ j v, cs[j]? = some v → w.cell? (a.add j) = some v) (hN : A = none → cs = [])
    {w' : World} (hst : ∀ a, base = some a → (storeCells a cs).run P w = .ok () w') (hbn : base = none → w' = w) :
    (Builtin.copy_ #[t, t] ty #[.slice base n cap, .slice A m c]).run P w = .ok (goInt cs.length) w' := by
  have hu := ht.slc e hk
  have hl : (Builtin.firstCells 1 (Nat.min m n) (.slice A m c)).run P w = .ok cs.toArray w := by
    cases A with
    | none => rw [hN rfl]; rfl
    | some a =>
      have := run_loadCells_list (P := P) w a cs (hA a rfl)
      simp only [Builtin.firstCells, Nat.mul_one, ← hcs]
      exact this
  rw [← hcs] at hl
  have h1 : (sizeOf e).run P w = .ok 1 w := by rw [Zb2 he, hsz]
  cases base with
  | none =>
    obtain rfl := hbn rfl
    simp [Builtin.copy_, Sem.run_bind, run_underlying hu, Builtin.lenOf, h1, hl, Result.andThen, ← hcs]
  | some a =>
    simp [Builtin.copy_, Sem.run_bind, run_underlying hu, Builtin.lenOf, h1, hl, Result.andThen, ← hcs, hst a rfl]
theorem opsem_copy {o : Oper} {t e : Nat} {i ie : TI} {x y : Operand} (ho : o.op = .call ⟨.builtin .copy, #[x, y], #[t, t]⟩) (ht : TOK P t i) (hk : i.k = .slc e) (he : TOK P e ie) (hsz : ie.size = 1) {n m k : Nat} (hx0 : get x = .own k) {rd : List (Nat × Blk)} {B B' : Blk} (hrd0 : (k, B) ∈ rd)
    (g : (Nat → Prop) → World → (Nat → Value) → Nat → List Value → Prop) (hs : ∀ Z w ν y F, sat Z w ν y F B → row w y 1 n (g Z w ν) F)
    (g' : (Nat → Prop) → World → (Nat → Value) → Nat → List Value → Prop) (hsrc : SrcOf rd (get y) 1 m g')
    (hs' : ∀ (Z : Nat → Prop) (w w' : World) ν y F, (∀ b, Z b → w'.heap[b]? = w.heap[b]?) → row w' y 1 n (fun j es => if j < min m n then g' Z w ν j es else g Z w ν j es) F → sat Z w' ν y F B')
    (hm' : ∀ μ, menB μ B → menB μ B') : OpSem P o get (.int .i64 (min m n : Nat)) rd [(k, some B')] none :=
  ⟨fun K Z ν w ev μ rs h1 hg hzk hkl hx hrd hkn => by
    obtain ⟨rx, mx⟩ := hx x (by rw [ho]; simp [Op.operands, Call.operands])
    obtain ⟨ry, my⟩ := hx y (by rw [ho]; simp [Op.operands, Call.operands])
    obtain ⟨A, c, news, hsr⟩ := hsrc K Z ν w μ rs (ev y) h1 hg hrd ry
    have hexec : ∀ (v : Value) (w' : World), (Builtin.copy_ #[t, t] o.type #[ev x, ev y]).run P w = .ok v w' → (execOp ev o).run P w = .ok (.value v) w' := fun v w' h => by
      simp [execOp, ho, resolve, invoke, builtin, Sem.run_bind, h, Result.andThen, Sem.run]
    rw [hx0] at rx
    have ex := one1 rx
    have hrk : rs k = some B := hrd _ hrd0
    obtain ⟨F0, s0, m0, u0, hF0, swap⟩ := Zdz hg hzk hkl hrk
    have hrow := hs _ _ _ _ _ s0
    rw [← ex] at hrow
    have hnl : news.length = m := by rw [hsr.len, Nat.mul_one]
    have hcs : (news.take (min m n)).length = Nat.min m n := by rw [List.length_take, hnl]; exact Nat.min_eq_left (Nat.min_le_left m n)
    have hA : ∀ a, A = some a → ∀ j v, (news.take (min m n))[j]? = some v → w.cell? (a.add j) = some v := fun a ha j v hj => by
      rw [List.getElem?_take] at hj
      split at hj
      · exact hsr.rd a ha j v hj
      · cases hj
    have hN : A = none → news.take (min m n) = [] := fun ha => by rw [hsr.nil ha]; exact List.take_nil
    have hone : ∀ u, u ∈ news.take (min m n) → u.oneCell' = true := fun u hu => hsr.one u (List.mem_of_mem_take hu)
    rw [hsr.val] at hexec
    have fin : ∀ (w' : World), (∀ y, ¬ F0 y → y < w.heap.size → w'.heap[y]? = w.heap[y]?) → w'.heap.size = w.heap.size → w'.os = w.os → w'.tape = w.tape → w'.output = w.output →
        row w' (ev x) 1 n (fun j es => if j < min m n then g' Z w ν j es else g Z w ν j es) F0 → (Builtin.copy_ #[t, t] o.type #[ev x, .slice A m c]).run P w = .ok (goInt (min m n : Nat)) w' →
        ∃ y w' ν' Z', ((execOp ev o).run P w = .ok (.value y) w' ∨ ((execOp ev o).run P w = .ok .skip w' ∧ y = undef)) ∧ Step K Z w Z' w' ∧ (∀ k, μ k = true → ν' k = ν k) ∧ (∀ k, (ν' k).oneCell' = true) ∧
          GoodRs (un K Z') Z' w' ν' (addK μ none) (updL rs [(k, some B')]) ∧ R Z' w' (.int .i64 (min m n : Nat)) ν' true [y] ∧ men (addK μ none) (.int .i64 (min m n : Nat)) = true ∧ (∀ b, Z' b → b < w'.heap.size) := by
      intro w' b1 b2 b3 b4 b5 b6 b7
      have hzw : ∀ y, Z y → w'.heap[y]? = w.heap[y]? := fun y hy => b1 y (fun hf => (hF0 y hf).1 (hzk y hy)) (hkl y (hzk y hy))
      refine ⟨_, w', ν, Z, .inl (hexec _ _ b7), ⟨⟨b3, b4, b5, by omega, fun y hy => b1 y (fun hf => (hF0 y hf).1 hy) (hkl y hy)⟩, fun _ h => h, fun _ h => .inl h⟩, fun _ _ => rfl, h1, ?_, rfl, rfl, fun y hy => by rw [b2]; exact hkl y (hzk y hy)⟩
      rw [Zbq hzk]
      have := swap w' ν k B' F0 (by omega) b1 (fun _ _ => rfl) (.inl rfl) (hs' Z w w' ν (ν k) F0 hzw (by rw [← ex]; exact b6)) (Zcu Zby (hm' μ m0)) (fun y hy => ⟨.inl hy, by rw [b2]; exact (hF0 y hy).2⟩)
      rw [Zer u0, Zds] at this
      exact this
    rcases hrow with ⟨e0, hn0, hFn⟩ | ⟨b, f, cap, cells, T, hxv, hc1, hc2, hh, hcsz, hFb, hel⟩
    · subst hn0
      refine fin w (fun _ _ _ => rfl) rfl rfl rfl rfl (.inl ⟨e0, rfl, hFn⟩) ?_
      rw [e0]
      have := run_copy_gen (base := none) (cap := 0) (c := c) (ty := o.type) ht hk he hsz hcs hA hN (w' := w) (fun a ha => by cases ha) (fun _ => rfl)
      rw [this, hcs]
    · have hlen : (news.take (min m n)).length ≤ n := by rw [hcs]; exact Nat.min_le_right m n
      have hrun := run_storeCells_at (P := P) b f T (news.take (min m n)) 0 cells w hh (by omega) hone
      simp only [Nat.add_zero] at hrun
      have hnew := setRow_heap w b cells (cells.toList.take f ++ news.take (min m n) ++ cells.toList.drop (f + (news.take (min m n)).length)).toArray T (0, 0) hh
      refine fin _ (fun y hy _ => setRow_other w b y _ (fun e => hy ((hFb y).2 e))) (by simp) rfl rfl rfl (.inr ⟨b, f, cap, _, T, hxv, hc1, hc2, hnew, by simp; omega, hFb, fun j hj => ?_⟩) ?_
      · have hfl : f ≤ cells.size := by omega
        have htk : (cells.toList.take f).length = f := by simp; omega
        by_cases hjm : j < min m n
        · refine ⟨(news.drop (j * 1)).take 1, by dsimp only; rw [if_pos hjm]; exact hsr.el j (by omega), ?_, fun i v hi => ?_⟩
          · rw [List.length_take, List.length_drop, hnl]; omega
          · rw [List.getElem?_take] at hi
            split at hi
            · rename_i hi0
              obtain rfl : i = 0 := by omega
              rw [List.getElem?_drop] at hi
              simp only [List.getElem?_toArray]
              rw [List.append_assoc, List.getElem?_append_right (by omega), htk, show f + (j * 1 + 0) - f = j from by omega, List.getElem?_append_left (by rw [hcs]; exact hjm), List.getElem?_take, if_pos hjm]
              rw [show j * 1 + 0 = j from by omega] at hi
              exact hi
            · cases hi
        · obtain ⟨es, e1, e2, e3⟩ := hel j hj
          refine ⟨es, by dsimp only; rw [if_neg hjm]; exact e1, e2, fun i v hi => ?_⟩
          have hi1 : i < 1 := by
            rcases Nat.lt_or_ge i 1 with h | h
            · exact h
            · rw [List.getElem?_eq_none (by omega)] at hi; cases hi
          obtain rfl : i = 0 := by omega
          have h3 := e3 0 v hi
          have hm2 : (news.take (min m n)).length = min m n := hcs
          simp only [List.getElem?_toArray]
          rw [List.append_assoc, List.getElem?_append_right (by omega), htk, List.getElem?_append_right (by omega), List.getElem?_drop]
          rw [show f + (news.take (min m n)).length + (f + (j * 1 + 0) - f - (news.take (min m n)).length) = f + (j * 1 + 0) from by omega]
          simpa using h3
      · rw [hxv]
        have := run_copy_gen (base := some ⟨b, f, none⟩) (cap := cap) (c := c) (ty := o.type) (w := w) ht hk he hsz hcs hA hN (w' := _) (fun a ha => by cases ha; exact hrun) (fun h => by cases h)
        rw [this, hcs]⟩
/-- What the first cells become. -/
def cpL {α : Type} (xs ys : List α) : List α := ys.take xs.length ++ xs.drop ys.length
theorem cpL_len {α : Type} {xs ys : List α} : (cpL xs ys).length = xs.length := by
  simp only [cpL, List.length_append, List.length_take, List.length_drop]; omega
theorem cpL_getD {α : Type} {xs ys : List α} {d : α} {j : Nat} (hj : j < xs.length) : (cpL xs ys).getD j d = if j < min ys.length xs.length then ys.getD j d else xs.getD j d := by
  simp only [cpL, List.getD_eq_getElem?_getD]
  split
  · rename_i h
    rw [List.getElem?_append_left (by rw [List.length_take]; omega), List.getElem?_take, if_pos hj]
  · rename_i h
    rw [List.getElem?_append_right (by rw [List.length_take]; omega), List.getElem?_drop, List.length_take]
    congr 2; omega
def evCopy (tb : Nat → Option TI) (get : Operand → AV) (l : List (Nat × Option Blk)) (c : Call) : Option EvR :=
  match c.args.toList, c.argTypes.toList with
  | [x, y], [t, t'] => if Nat.beq t t' then (match tb t with
    | some i => match i.k with
      | .slc e => match tb e with
        | some ie => if Nat.beq ie.size 1 then (match get x with
          | .own k => match lkr l k with
            | some (.ints xs) => match srcI l (get y) with
              | some (ys, rd) => some ⟨.int .i64 (min ys.length xs.length : Nat), (k, .ints xs) :: rd, [(k, some (.ints (cpL xs ys)))], none, True⟩
              | none => none
            | some (.bools xs) => match srcB l (get y) with
              | some (ys, rd) => some ⟨.int .i64 (min ys.length xs.length : Nat), (k, .bools xs) :: rd, [(k, some (.bools (cpL xs ys)))], none, True⟩
              | none => none
            | _ => none
          | _ => none) else none
        | none => none
      | _ => none
    | none => none) else none
  | _, _ => none
theorem evCopy_ok (htb : TabOK P tb) {o : Oper} {c : Call} (ho : o.op = .call c) (hc : c.callee = .builtin .copy) {kn : Nat} {r : EvR} (h : evCopy tb get l c = some r) (hob : r.ob) : EvOK P o get l kn r := by
  unfold evCopy at h
  split at h
  · rename_i x y t t' ha hat
    split at h
    · rename_i htt
      obtain rfl := Nat.eq_of_beq_eq_true htt
      split at h
      · rename_i i hi
        split at h
        · rename_i e hk
          split at h
          · rename_i ie he
            split at h
            · rename_i hsz
              have hsz := Nat.eq_of_beq_eq_true hsz
              have hco : o.op = .call ⟨.builtin .copy, #[x, y], #[t, t]⟩ := by
                rw [ho]
                obtain ⟨cal, args, ats⟩ := c
                simp only at hc ha hat
                subst hc
                have e1 : args = #[x, y] := by rw [← Array.toList_inj, ha]
                have e2 : ats = #[t, t] := by rw [← Array.toList_inj, hat]
                rw [e1, e2]
              split at h
              · rename_i k hx
                split at h
                · rename_i xs hk2
                  split at h
                  · rename_i ys rd hy
                    simp only [Option.some.injEq] at h
                    subst h
                    obtain ⟨s1, s2⟩ := Zfa (rd' := (k, Blk.ints xs) :: rd) hy (fun p hp => List.mem_cons_of_mem _ hp)
                    refine ⟨opsem_copy hco (htb t i hi) hk (htb e ie he) hsz hx List.mem_cons_self (fun _ _ _ => intAt xs) (fun Z w ν y F h => h) (fun _ _ _ => intAt ys) s1 ?_ (fun _ _ => trivial), Zbz hk2 s2, .inl rfl⟩
                    intro Z w w' ν y F hz hrow
                    show row w' y 1 (cpL xs ys).length _ F
                    rw [cpL_len]
                    refine Za8 (fun _ _ => rfl) (fun j es hj he => ?_) hrow
                    rw [intAt, cpL_getD hj]
                    split at he
                    · rename_i hlt; rw [if_pos hlt]; exact he
                    · rename_i hlt; rw [if_neg hlt]; exact he
                  · cases h
                · rename_i xs hk2
                  split at h
                  · rename_i ys rd hy
                    simp only [Option.some.injEq] at h
                    subst h
                    obtain ⟨s1, s2⟩ := Zfb (rd' := (k, Blk.bools xs) :: rd) hy (fun p hp => List.mem_cons_of_mem _ hp)
                    refine ⟨opsem_copy hco (htb t i hi) hk (htb e ie he) hsz hx List.mem_cons_self (fun _ _ _ => boolAt xs) (fun Z w ν y F h => h) (fun _ _ _ => boolAt ys) s1 ?_ (fun _ _ => trivial), Zbz hk2 s2, .inl rfl⟩
                    intro Z w w' ν y F hz hrow
                    show row w' y 1 (cpL xs ys).length _ F
                    rw [cpL_len]
                    refine Za8 (fun _ _ => rfl) (fun j es hj he => ?_) hrow
                    rw [boolAt, cpL_getD hj]
                    split at he
                    · rename_i hlt; rw [if_pos hlt]; exact he
                    · rename_i hlt; rw [if_neg hlt]; exact he
                  · cases h
                · cases h
              · cases h
            · cases h
          · cases h
        · cases h
      · cases h
    · cases h
  · cases h
theorem evCopy_rd {c : Call} {r : EvR} (h : evCopy tb get l c = some r) : RdIn l r.rd := by
  unfold evCopy at h
  (repeat' split at h) <;> first
    | (cases h; done)
    | (simp only [Option.some.injEq] at h; subst h; first
        | exact Zbz (by assumption) (Zfa (rd' := _) (by assumption) (fun _ hp => hp)).2
        | exact Zbz (by assumption) (Zfb (rd' := _) (by assumption) (fun _ hp => hp)).2)
/-! ### A fresh block that nobody will write -/
theorem Zgb {o : Oper} {kn : Nat} {rd : List (Nat × Blk)} {wr : List (Nat × Option Blk)} {B : Blk} {u : AV} (hro : ∀ (Z : Nat → Prop) (w : World) (ν : Nat → Value) (x : Value) (F : Nat → Prop), sat Z w ν x F B → (∀ y, F y → Z y) → R Z w u ν true [x]) (hu : men noK u = true) (hwr : lko wr kn = none)
    (h : OpSem P o get (.own kn) rd ((kn, some B) :: wr) (some kn)) : OpSem P o get u rd wr (some kn) :=
  ⟨fun K Z ν w ev μ rs h1 hg hzk hkl hx hrd hkn => by
    obtain ⟨y, w', ν', Z', hrun, hst, hν, h1', ⟨Ft, hF⟩, hr, hm, hz⟩ := h.sem K Z ν w ev μ rs h1 hg hzk hkl hx hrd hkn
    have hfr := hkn kn rfl
    have hk : updL rs ((kn, some B) :: wr) kn = some B := by simp [updL, lko, Nat.beq_refl]
    obtain ⟨g1, g2, g3, g4, g5⟩ := hF kn B hk
    have hy : y = ν' kn := one1 hr
    have hext : ∀ b, Z' b → Z' b ∨ Ft kn b := fun b h => .inl h
    refine ⟨y, w', ν', fun b => Z' b ∨ Ft kn b, hrun, ⟨hst.ext, fun b hb => .inl (hst.le b hb), fun b hb => ?_⟩, hν, h1', ?_, ?_, Zbr hu, fun b hb => ?_⟩
    · rcases hb with hb | hb
      · exact hst.new b hb
      · exact .inr fun hK => (g4 b hb).1 (.inl hK)
    · refine ⟨Ft, fun j b hj => ?_⟩
      have hne : j ≠ kn := by
        rintro rfl
        unfold updL at hj
        rw [hwr] at hj
        obtain ⟨Fo, hFo⟩ := hg
        have := (hFo j b hj).1
        rw [hfr] at this; cases this
      have hold : ∀ j', j' ≠ kn → updL rs ((kn, some B) :: wr) j' = updL rs wr j' := fun j' h => by
        unfold updL; simp only [lko, show Nat.beq j' kn = false from by cases hb : Nat.beq j' kn with | false => rfl | true => exact absurd (Nat.eq_of_beq_eq_true hb) h]
      have hj2 := (hold j hne).trans hj
      obtain ⟨f1, f2, f3, f4, f5⟩ := hF j b hj2
      refine ⟨f1, f2, Zbo hext (fun _ _ => rfl) (fun _ _ => rfl) f3, fun x hx => ⟨?_, (f4 x hx).2⟩, fun k' b' hne' hk' => ?_⟩
      · rintro (h | h | h)
        · exact (f4 x hx).1 (.inl h)
        · exact (f4 x hx).1 (.inr h)
        · exact f5 kn B hne hk x hx h
      · by_cases hk2 : k' = kn
        · exfalso
          subst hk2
          unfold updL at hk'
          rw [hwr] at hk'
          obtain ⟨Fo, hFo⟩ := hg
          have := (hFo k' b' hk').1
          rw [hfr] at this; cases this
        · exact f5 k' b' hne' ((hold k' hk2).trans hk')
    · rw [hy]; exact hro _ _ _ _ _ (Zbo hext (fun _ _ => rfl) (fun _ _ => rfl) g3) (fun y hy => .inr hy)
    · rcases hb with hb | hb
      · exact hz b hb
      · exact (g4 b hb).2⟩
/-- The same, for an answer of the table. -/
def evFz (kn : Nat) : Option EvR → Option EvR
  | some ⟨.own k, rd, (k1, some B) :: wr, some k2, ob⟩ => if Nat.beq k kn && Nat.beq k1 kn && Nat.beq k2 kn && (lko wr kn).isNone then (match B with
    | .ints xs => some ⟨.roI xs, rd, wr, some kn, ob⟩
    | .bools xs => some ⟨.roB xs, rd, wr, some kn, ob⟩
    | .rowsR xs => some ⟨.roII xs, rd, wr, some kn, ob⟩
    | _ => none) else none
  | _ => none
theorem evFz_ok {o : Oper} {kn : Nat} {e : Option EvR} {r : EvR} (h : evFz kn e = some r) (hob : r.ob) (he : ∀ r', e = some r' → r'.ob → EvOK P o get l kn r') : EvOK P o get l kn r := by
  unfold evFz at h
  split at h
  · rename_i k rd k1 B wr k2 ob
    split at h
    · rename_i hc
      simp only [Bool.and_eq_true, Option.isNone_iff_eq_none] at hc
      obtain ⟨⟨⟨c1, c2⟩, c3⟩, c4⟩ := hc
      obtain rfl := Nat.eq_of_beq_eq_true c1
      obtain rfl := Nat.eq_of_beq_eq_true c2
      obtain rfl := Nat.eq_of_beq_eq_true c3
      split at h
      · rename_i xs
        simp only [Option.some.injEq] at h
        subst h
        obtain ⟨h1, h2, h3⟩ := he _ rfl hob
        exact ⟨Zgb (B := .ints xs) (u := .roI xs) (fun Z w ν x F hs hF => Zc7 (show row w x 1 xs.length (intAt xs) F from hs) hF) rfl c4 h1, h2, .inr rfl⟩
      · rename_i xs
        simp only [Option.some.injEq] at h
        subst h
        obtain ⟨h1, h2, h3⟩ := he _ rfl hob
        exact ⟨Zgb (B := .bools xs) (u := .roB xs) (fun Z w ν x F hs hF => Zc7 (show row w x 1 xs.length (boolAt xs) F from hs) hF) rfl c4 h1, h2, .inr rfl⟩
      · rename_i xs
        simp only [Option.some.injEq] at h
        subst h
        obtain ⟨h1, h2, h3⟩ := he _ rfl hob
        exact ⟨Zgb (B := .rowsR xs) (u := .roII xs) (fun Z w ν x F hs hF => Zc7 (show row w x 1 xs.length (fun j es => R Z w (.roI (xs.getD j [])) ν false es) F from hs) hF) rfl c4 h1, h2, .inr rfl⟩
      · cases h
    · cases h
  · cases h
theorem evFz_rd {kn : Nat} {e : Option EvR} {r : EvR} (h : evFz kn e = some r) (he : ∀ r', e = some r' → RdIn l r'.rd) : RdIn l r.rd := by
  unfold evFz at h
  split at h
  · split at h
    · split at h
      · simp only [Option.some.injEq] at h; subst h; have := he _ rfl; exact this
      · simp only [Option.some.injEq] at h; subst h; have := he _ rfl; exact this
      · simp only [Option.some.injEq] at h; subst h; have := he _ rfl; exact this
      · cases h
    · cases h
  · cases h
end
/-! ### A part of a slice of the call's own -/
theorem row_cut {w : World} {xs : List Int} {A : Option Addr} {n cap l h : Nat} {F : Nat → Prop} (hr : row w (.slice A n cap) 1 xs.length (intAt xs) F) (h1 : l ≤ h) (h2 : h ≤ xs.length) :
    row w (.slice (if cap = l then A else A.map (·.add (l * 1))) (h - l) (cap - l)) 1 ((xs.take h).drop l).length (intAt ((xs.take h).drop l)) F ∧ n = xs.length ∧ h ≤ cap := by
  have hlen : ((xs.take h).drop l).length = h - l := by simp; omega
  rw [hlen]
  rcases hr with ⟨e, h0, hF⟩ | ⟨b, o, cap', cells, T, hx, hc1, hc2, hh, hcsz, hFb, hel⟩
  · injection e with e1 e2 e3
    subst e1 e2 e3
    refine ⟨.inl ⟨?_, by omega, hF⟩, by omega, by omega⟩
    have : l = 0 := by omega
    subst this
    simp
    omega
  · injection hx with e1 e2 e3
    subst e1 e2 e3
    refine ⟨?_, rfl, by omega⟩
    by_cases hl : cap = l
    · rw [if_pos hl]
      exact .inr ⟨b, o, cap - l, cells, T, rfl, by omega, by omega, hh, by omega, hFb, fun j hj => by omega⟩
    · rw [if_neg hl]
      refine .inr ⟨b, o + l * 1, cap - l, cells, T, by simp [Addr.add_lit], by omega, by omega, hh, by omega, hFb, fun j hj => ?_⟩
      obtain ⟨es, e2, e3, e4⟩ := hel (l + j) (by omega)
      refine ⟨es, ?_, e3, fun i c hi => ?_⟩
      · rw [intAt] at e2 ⊢
        rw [e2]
        congr 2
        simp only [List.getD_eq_getElem?_getD, List.getElem?_drop, List.getElem?_take]
        rw [if_pos (by omega)]
      · have := e4 i c hi
        rw [show o + l * 1 + (j * 1 + i) = o + ((l + j) * 1 + i) from by omega]
        exact this
section
variable {P : Program} {get : Operand → AV} {l : List (Nat × Option Blk)} {tb : Nat → Option TI}
theorem opsem_cut {o : Oper} {t e k kn : Nat} {i ie : TI} {x : Operand} {lo hi : Option Operand} {xs : List Int} (ho : o.op = .slice t x lo hi none) (ht : TOK P t i) (hk : i.k = .slc e) (he : TOK P e ie) (hsz : ie.size = 1) (hx0 : get x = .own k) {lz h0 : Int}
    (hlo : bnd get 0 lo = some lz) (hhi : (hi = none ∧ h0 = xs.length) ∨ ∃ y, hi = some y ∧ cutI (get y) = some h0) (hob : 0 ≤ lz ∧ lz ≤ h0 ∧ h0 ≤ xs.length) :
    OpSem P o get (.own kn) [(k, .ints xs)] [(kn, some (.ints ((xs.take h0.toNat).drop lz.toNat))), (k, none)] (some kn) :=
  ⟨fun K Z ν w ev μ rs h1 hg hzk hkl hx hrd hkn => by
    have hk2 := hkn kn rfl
    obtain ⟨rx, mx⟩ := hx x (by rw [ho]; simp [Op.operands])
    rw [hx0] at rx
    have ex := one1 rx
    have hrk : rs k = some (.ints xs) := hrd _ List.mem_cons_self
    obtain ⟨F0, s0, m0, u0, hF0, swap⟩ := Zdz hg hzk hkl hrk
    have hrow : row w (ev x) 1 xs.length (intAt xs) F0 := by rw [ex]; exact s0
    obtain ⟨A, cap, hxv⟩ := Zf8 hrow
    have hcut : ∀ {a : AV} {z : Int}, cutI a = some z → a = .int .i64 z := by
      intro a z ha
      unfold cutI at ha
      split at ha
      · simp only [Option.some.injEq] at ha; rw [ha]
      · cases ha
    have hev : ∀ y, lo = some y ∨ hi = some y → R Z w (get y) ν true [ev y] := fun y hy => (hx y (by rw [ho]; rcases hy with rfl | rfl <;> simp [Op.operands])).1
    have hlv : (lo.map ev = none ∧ lz.toNat = 0) ∨ lo.map ev = some (.int .i64 lz.toNat) := by
      cases lo with
      | none => simp only [bnd, Option.some.injEq] at hlo; subst hlo; exact .inl ⟨rfl, rfl⟩
      | some y =>
        have := hev y (.inl rfl)
        rw [hcut hlo] at this
        exact .inr (by simp only [Option.map_some]; rw [one1 this]; congr 2; omega)
    obtain ⟨h, hh, hhv⟩ : ∃ h : Nat, h0.toNat = h ∧ ((hi.map ev = none ∧ h = xs.length) ∨ hi.map ev = some (.int .i64 h)) := by
      refine ⟨_, rfl, ?_⟩
      rcases hhi with ⟨rfl, rfl⟩ | ⟨y, rfl, hy⟩
      · exact .inl ⟨rfl, by simp⟩
      · have := hev y (.inr rfl)
        rw [hcut hy] at this
        refine .inr ?_
        simp only [Option.map_some]
        rw [one1 this]; congr 2; omega
    rw [hh]
    have hb1 : lz.toNat ≤ h := by omega
    have hb2 : h ≤ xs.length := by omega
    have hrow2 := hrow
    rw [hxv] at hrow2
    obtain ⟨hc1, hc2, hc3⟩ := row_cut hrow2 hb1 hb2
    have hrun := Zfg ht hk he A xs.length cap (lo.map ev) (hi.map ev) lz.toNat h hlv hhv hb1 hc3 w
    rw [hsz] at hrun
    refine ⟨.slice (if cap = lz.toNat then A else A.map (·.add (lz.toNat * 1))) (h - lz.toNat) (cap - lz.toNat), w, upN ν kn (.slice (if cap = lz.toNat then A else A.map (·.add (lz.toNat * 1))) (h - lz.toNat) (cap - lz.toNat)), Z, .inl ?_, Step.refl K Z w, Zb0 hk2, Zcs h1 rfl, ?_, ?_, Zbx, fun b hb => hkl b (hzk b hb)⟩
    · simp only [execOp, ho, Sem.run_bind, hxv, Option.map_none]
      rw [hrun]
      simp [Result.andThen, Sem.run]
    · rw [Zbq hzk]
      exact swap w _ kn _ F0 (Nat.le_refl _) (fun _ _ _ => rfl) (Zb0 hk2) (.inr hk2) (by rw [upN_same]; exact hc1) trivial (fun y hy => ⟨.inl hy, (hF0 y hy).2⟩)
    · show [_] = [_]; rw [upN_same]⟩
def evCut (tb : Nat → Option TI) (get : Operand → AV) (l : List (Nat × Option Blk)) (kn : Nat) (t k : Nat) (lo hi : Option Operand) : Option EvR :=
  match tb t with
  | some i => match i.k with
    | .slc e => match tb e with
      | some ie => if Nat.beq ie.size 1 then (match lkr l k with
        | some (.ints xs) => match bnd get 0 lo with
          | some lz => match hi with
            | none => some ⟨.own kn, [(k, .ints xs)], [(kn, some (.ints (xs.drop lz.toNat))), (k, none)], some kn, 0 ≤ lz ∧ lz ≤ xs.length⟩
            | some y => match cutI (get y) with
              | some z => some ⟨.own kn, [(k, .ints xs)], [(kn, some (.ints ((xs.take z.toNat).drop lz.toNat))), (k, none)], some kn, 0 ≤ lz ∧ lz ≤ z ∧ z ≤ xs.length⟩
              | none => none
          | none => none
        | _ => none) else none
      | none => none
    | _ => none
  | none => none
theorem evCut_ok (htb : TabOK P tb) {o : Oper} {t k kn : Nat} {x : Operand} {lo hi : Option Operand} (ho : o.op = .slice t x lo hi none) (hx : get x = .own k) {r : EvR} (h : evCut tb get l kn t k lo hi = some r) (hob : r.ob) : EvOK P o get l kn r := by
  unfold evCut at h
  split at h
  · rename_i i hi1
    split at h
    · rename_i e hk
      split at h
      · rename_i ie he
        split at h
        · rename_i hsz
          have hsz := Nat.eq_of_beq_eq_true hsz
          split at h
          · rename_i xs hk2
            split at h
            · rename_i lz hlz
              split at h
              · simp only [Option.some.injEq] at h
                subst h
                have := opsem_cut (kn := kn) (xs := xs) (lz := lz) (h0 := xs.length) ho (htb t i hi1) hk (htb e ie he) hsz hx hlz (.inl ⟨rfl, rfl⟩) ⟨hob.1, hob.2, Int.le_refl _⟩
                simp only [Int.toNat_natCast, List.take_length] at this
                exact ⟨this, Za9 hk2, .inr rfl⟩
              · rename_i y
                split at h
                · rename_i z hz
                  simp only [Option.some.injEq] at h
                  subst h
                  exact ⟨opsem_cut (kn := kn) (xs := xs) (lz := lz) (h0 := z) ho (htb t i hi1) hk (htb e ie he) hsz hx hlz (.inr ⟨y, rfl, hz⟩) hob, Za9 hk2, .inr rfl⟩
                · cases h
            · cases h
          · cases h
        · cases h
      · cases h
    · cases h
  · cases h
theorem evCut_rd {t k kn : Nat} {lo hi : Option Operand} {r : EvR} (h : evCut tb get l kn t k lo hi = some r) : RdIn l r.rd := by
  unfold evCut at h
  (repeat' split at h) <;> first
    | (cases h; done)
    | (simp only [Option.some.injEq] at h; subst h; exact Za9 (by assumption))
end
end Go.Proofs.Ytbcghiagomkadaa.Cal
namespace Go.Proofs.Ytbcghiagomkadaa.Cal
open Go
def fnd (k : Int) : List (Int × Int × Nat) → Nat → Option (Nat × Int)
  | [], _ => none
  | e :: t, i => if k = e.1 then some (i, e.2.1) else fnd k t (i + 1)
def mget (k : Int) (es : List (Int × Int × Nat)) : Int := match fnd k es 0 with | some p => p.2 | none => 0
def mhas (k : Int) (es : List (Int × Int × Nat)) : Bool := match fnd k es 0 with | some _ => true | none => false
def mput (k v : Int) (c : Nat) (es : List (Int × Int × Nat)) : List (Int × Int × Nat) := match fnd k es 0 with | some p => es.modify p.1 (fun e => (k, v, e.2.2)) | none => es ++ [(k, v, c)]
def mclk (k : Int) (c : Nat) (es : List (Int × Int × Nat)) : Nat := match fnd k es 0 with | some _ => c | none => c + 1
theorem fnd_some {k : Int} : ∀ {es : List (Int × Int × Nat)} {i : Nat} {p : Nat × Int}, fnd k es i = some p → ∃ j e, p.1 = i + j ∧ es[j]? = some e ∧ e.1 = k ∧ p.2 = e.2.1
  | [], _, _, h => by cases h
  | e :: t, i, p, h => by
    unfold fnd at h
    split at h
    · rename_i hk
      cases h
      exact ⟨0, e, rfl, rfl, hk.symm, rfl⟩
    · obtain ⟨j, e', h1, h2, h3, h4⟩ := fnd_some h
      exact ⟨j + 1, e', by omega, by simpa using h2, h3, h4⟩
section
variable {P : Program} {get : Operand → AV} {l : List (Nat × Option Blk)} {tb : Nat → Option TI}
theorem run_findNow {k : Int} : ∀ {es : List (Int × Int × Nat)} {i : Nat}, Instr.findNow (.int .i64) (.int .i64 k) (es.map ent) i = some ((fnd k es i).map fun p => (p.1, Value.int .i64 p.2))
  | [], _ => rfl
  | e :: t, i => by
    show (match Instr.sameNow (.int .i64) (.int .i64 k) (Value.int .i64 e.1) with | some true => some (some (i, Value.int .i64 e.2.1)) | some false => Instr.findNow (.int .i64) (.int .i64 k) (t.map ent) (i + 1) | none => none) = _
    have h : Instr.sameNow (.int .i64) (.int .i64 k) (Value.int .i64 e.1) = some (k == e.1) := by simp [Instr.sameNow]
    rw [h]
    unfold fnd
    by_cases hk : k = e.1
    · rw [if_pos hk, beq_iff_eq.2 hk]; rfl
    · rw [if_neg hk, beq_eq_false_iff_ne.2 hk]
      exact run_findNow (es := t) (i := i + 1)
theorem Zd5 {kt : Nat} {w : World} {k : Int} {es : List (Int × Int × Nat)} (hk : P.underlying kt = some (.int .i64)) : (Instr.findKey kt (.int .i64 k) (es.map ent)).run P w = .ok ((fnd k es 0).map fun p => (p.1, Value.int .i64 p.2)) w := by
  simp [Instr.findKey, Sem.run_bind, run_underlying hk, Result.andThen, run_findNow, Sem.run]
theorem Zg2 {kt : Nat} {w : World} {k : Int} {e : Bool} (hk : P.underlying kt = some (.int .i64)) : (Instr.checkKey e 10000 kt (.int .i64 k)).run P w = .ok () w :=
  MapKept.run_checkKey (k := .int .i64 k) hk (show IntKind.i64 = IntKind.i64 from rfl) e 9999
theorem run_stay {w : World} {k : Int} : (Instr.keyThatStays (.int .i64 k) (.int .i64 k)).run P w = .ok (.int .i64 k) w := by
  simp [Instr.keyThatStays, Instr.sameBits, Sem.run]
theorem opsem_makeMap {o : Oper} {t : Nat} (ho : o.op = .makeMap t none) (kn : Nat) : OpSem P o get (.own kn) [] [(kn, some (.mp [] 0))] (some kn) :=
  ⟨fun K Z ν w ev μ rs h1 hg hzk hkl hx hrd hkn => by
    have hk := hkn kn rfl
    refine ⟨.map (some w.heap.size), w.alloc (.map #[] 0), upN ν kn (.map (some w.heap.size)), Z, .inl ?_, Zcq hkl _, Zb0 hk, Zcs h1 rfl, ?_, ?_, Zbx, fun b hb => by have := hkl b (hzk b hb); simp; omega⟩
    · simp [execOp, ho, Instr.makeMap, newObj, Sem.run_bind, Result.andThen, Sem.run]
    · rw [Zbq hzk]
      exact Zea (F := fun y => y = w.heap.size) hg hzk hkl hk (by simp) (fun y hy => Zbw _ hy) ⟨w.heap.size, #[], rfl, Zck _, rfl, fun _ => Iff.rfl⟩ trivial (fun y hy => by subst hy; simp)
    · show [_] = [_]; rw [upN_same]⟩
theorem opsem_lookup {o : Oper} {t km c : Nat} {m x : Operand} {ok : Bool} {k : Int} {es : List (Int × Int × Nat)} (ho : o.op = .lookup t m x ok) (ht : MapOK P t) (hm : get m = .own km) (hx : get x = .int .i64 k) :
    OpSem P o get (bif ok then .tup (.cons (.int .i64 (mget k es)) (.cons (.bool (mhas k es)) .nil)) else .int .i64 (mget k es)) [(km, .mp es c)] [] none :=
  Zdu fun K Z ν w ev μ rs h1 hg hv hrd => by
    obtain ⟨kt, e, hu, hk, inf, hi, hz⟩ := ht
    obtain ⟨rm, _⟩ := hv m (by rw [ho]; simp [Op.operands])
    obtain ⟨rx, _⟩ := hv x (by rw [ho]; simp [Op.operands])
    rw [hm] at rm
    rw [hx] at rx
    have em := one1 rm
    have ex := one1 rx
    have hb : rs km = some (.mp es c) := hrd (km, .mp es c) (by simp)
    obtain ⟨Ft, hF⟩ := hg
    obtain ⟨_, _, hs, _, _⟩ := hF km _ hb
    obtain ⟨b, arr, hxv, hh, he, _⟩ := hs
    rw [hxv] at em
    have hrun : ∀ (v : Value), (Instr.lookup t (ev m) (ev x) ok).run P w = .ok v w → (execOp ev o).run P w = .ok (.value v) w := fun v h => by
      simp [execOp, ho, Sem.run_bind, h, Result.andThen, Sem.run]
    have hzv : (zeroValue e).run P w = .ok (.int .i64 0) w := by simp [zeroValue, typeInfo, Sem.run_bind, hi, hz, Result.andThen, program, Sem.run]
    have key : (Instr.lookup t (ev m) (ev x) ok).run P w = .ok (if ok then .tuple #[.int .i64 (mget k es), .bool (mhas k es)] else .int .i64 (mget k es)) w := by
      rw [em, ex]
      simp only [Instr.lookup, Sem.run_bind, run_underlying hu, Result.andThen, MapKept.run_getObj_map hh, Sem.run_pure, Zg2 hk, he, Zd5 hk]
      unfold mget mhas
      cases hf : fnd k es 0 with
      | none => cases ok <;> simp [Sem.run_bind, hzv, Result.andThen, Sem.run]
      | some p => cases ok <;> simp [Sem.run_bind, Result.andThen, Sem.run]
    cases ok with
    | false => exact ⟨_, hrun _ key, rfl, rfl⟩
    | true => exact ⟨_, hrun _ key, ⟨_, rfl, _, _, rfl, rfl, _, _, rfl, rfl, rfl⟩, rfl⟩
theorem opsem_mapUpdate {o : Oper} {t km c : Nat} {m x y : Operand} {k v : Int} {es : List (Int × Int × Nat)} (ho : o.op = .mapUpdate t m x y) (ht : MapOK P t) (hm : get m = .own km) (hx : get x = .int .i64 k) (hy : get y = .int .i64 v) :
    OpSem P o get .any [(km, .mp es c)] [(km, some (.mp (mput k v c es) (mclk k c es)))] none :=
  ⟨fun K Z ν w ev μ rs h1 hg hzk hkl hv hrd hkn => by
    obtain ⟨kt, e, hu, hk, inf, hi, hz⟩ := ht
    obtain ⟨rm, _⟩ := hv m (by rw [ho]; simp [Op.operands])
    obtain ⟨rx, _⟩ := hv x (by rw [ho]; simp [Op.operands])
    obtain ⟨ry, _⟩ := hv y (by rw [ho]; simp [Op.operands])
    rw [hm] at rm
    rw [hx] at rx
    rw [hy] at ry
    have em := one1 rm
    have ex := one1 rx
    have ey := one1 ry
    have hb : rs km = some (.mp es c) := hrd (km, .mp es c) (by simp)
    obtain ⟨F0, s0, m0, u0, hF0, swap⟩ := Zdz hg hzk hkl hb
    obtain ⟨b, arr, hxv, hh, he, hF⟩ := s0
    have hbF : F0 b := (hF b).2 rfl
    rw [hxv] at em
    have hbl : b < w.heap.size := (Array.getElem?_eq_some_iff.1 hh).1
    obtain ⟨arr', hrun, he'⟩ : ∃ arr', (Instr.mapUpdate t (ev m) (ev x) (ev y)).run P w = .ok () { w with heap := w.heap.setIfInBounds b (.map arr' (mclk k c es)) } ∧ arr'.toList = (mput k v c es).map ent := by
      rw [em, ex, ey]
      unfold mput mclk
      cases hf : fnd k es 0 with
      | none =>
        refine ⟨arr.push ⟨.int .i64 k, .int .i64 v, c⟩, ?_, ?_⟩
        · simp only [Instr.mapUpdate, Sem.run_bind, run_underlying hu, Result.andThen, MapKept.run_getObj_map hh, Zg2 hk, he, Zd5 hk, hf, Option.map_none]
          exact MapKept.run_setObj_map _ hh
        · rw [Array.toList_push, he, List.map_append]; rfl
      | some p =>
        obtain ⟨j, e0, h2, h3, h4, h5⟩ := fnd_some hf
        have hj : p.1 = j := by omega
        refine ⟨arr.modify j (fun e => { e with key := .int .i64 k, val := .int .i64 v }), ?_, ?_⟩
        · have hgk : ((arr[j]?).map (·.key)).getD (.int .i64 k) = .int .i64 k := by
            have : arr[j]? = some (ent e0) := by rw [← Array.getElem?_toList, he, List.getElem?_map, h3]; rfl
            rw [this]; show Value.int .i64 e0.1 = _; rw [h4]
          simp only [Instr.mapUpdate, Sem.run_bind, run_underlying hu, Result.andThen, MapKept.run_getObj_map hh, Zg2 hk, he, Zd5 hk, hf, Option.map_some, hj, hgk, run_stay]
          exact MapKept.run_setObj_map _ hh
        · rw [Array.toList_modify, he]
          dsimp only
          rw [hj]
          refine List.ext_getElem? fun i => ?_
          simp only [List.getElem?_modify, List.getElem?_map]
          cases es[i]? with
          | none => rfl
          | some a =>
            by_cases hij : j = i
            · simp [hij, ent]
            · simp [hij]
    have w1 : ∀ y, y ≠ b → ({ w with heap := w.heap.setIfInBounds b (.map arr' (mclk k c es)) } : World).heap[y]? = w.heap[y]? := fun y hy => by
      show (w.heap.setIfInBounds b _)[y]? = _
      rw [Array.getElem?_setIfInBounds, if_neg (Ne.symm hy)]
    have w2 : ({ w with heap := w.heap.setIfInBounds b (.map arr' (mclk k c es)) } : World).heap.size = w.heap.size := by simp
    have w3 : ({ w with heap := w.heap.setIfInBounds b (.map arr' (mclk k c es)) } : World).heap[b]? = some (.map arr' (mclk k c es)) := by
      show (w.heap.setIfInBounds b _)[b]? = _
      rw [Array.getElem?_setIfInBounds, if_pos rfl, if_pos hbl]
    generalize hwd : ({ w with heap := w.heap.setIfInBounds b (.map arr' (mclk k c es)) } : World) = w' at *
    refine ⟨undef, w', ν, Z, .inr ⟨?_, rfl⟩, ⟨⟨by rw [← hwd], by rw [← hwd], by rw [← hwd], by omega, fun y hy => w1 y (fun e => (hF0 b hbF).1 (e ▸ hy))⟩, fun _ h => h, fun _ h => .inl h⟩, fun _ _ => rfl, h1, ?_, ⟨_, rfl⟩, rfl, fun y hy => by rw [w2]; exact hkl y (hzk y hy)⟩
    · simp [execOp, ho, Sem.run_bind, hrun, Result.andThen, Sem.run]
    · rw [Zbq hzk]
      have := swap w' ν km (.mp (mput k v c es) (mclk k c es)) F0 (by omega) (fun y hy _ => w1 y (fun e => hy (e ▸ hbF))) (fun _ _ => rfl) (.inl rfl)
        ⟨b, arr', hxv, w3, he', hF⟩ trivial (fun y hy => ⟨.inl hy, by rw [w2]; exact (hF0 y hy).2⟩)
      rw [Zer u0, Zds] at this
      exact this⟩
/-- The operations on maps, as a function of the state. -/
def evMap (tb : Nat → Option TI) (get : Operand → AV) (l : List (Nat × Option Blk)) (kn : Nat) (op : Op) : Option EvR :=
  match op with
  | .makeMap _ none => some ⟨.own kn, [], [(kn, some (.mp [] 0))], some kn, True⟩
  | .lookup t m x ok => match tb t with
    | some i => match i.k with
      | .map => match get m with
        | .own km => match lkr l km with
          | some (.mp es c) => match get x with
            | .int .i64 k => some ⟨bif ok then .tup (.cons (.int .i64 (mget k es)) (.cons (.bool (mhas k es)) .nil)) else .int .i64 (mget k es), [(km, .mp es c)], [], none, True⟩
            | _ => none
          | _ => none
        | _ => none
      | _ => none
    | none => none
  | .mapUpdate t m x y => match tb t with
    | some i => match i.k with
      | .map => match get m with
        | .own km => match lkr l km with
          | some (.mp es c) => match get x, get y with
            | .int .i64 k, .int .i64 v => some ⟨.any, [(km, .mp es c)], [(km, some (.mp (mput k v c es) (mclk k c es)))], none, True⟩
            | _, _ => none
          | _ => none
        | _ => none
      | _ => none
    | none => none
  | _ => none
theorem Zgl (htb : TabOK P tb) {o : Oper} {kn : Nat} {r : EvR} (h : evMap tb get l kn o.op = some r) : EvOK P o get l kn r := by
  unfold evMap at h
  split at h
  · rename_i t ho
    simp only [Option.some.injEq] at h
    subst h
    exact ⟨opsem_makeMap ho kn, Za7, .inr rfl⟩
  · rename_i t m x ok ho
    split at h
    · rename_i i hi
      split at h
      · rename_i hk
        split at h
        · rename_i km hm
          split at h
          · rename_i es c hl
            split at h
            · rename_i k hx
              simp only [Option.some.injEq] at h
              subst h
              exact ⟨opsem_lookup ho ((htb t i hi).map hk) hm hx, Za9 hl, .inl rfl⟩
            · cases h
          · cases h
        · cases h
      · cases h
    · cases h
  · rename_i t m x y ho
    split at h
    · rename_i i hi
      split at h
      · rename_i hk
        split at h
        · rename_i km hm
          split at h
          · rename_i es c hl
            split at h
            · rename_i k v hx hy
              simp only [Option.some.injEq] at h
              subst h
              exact ⟨opsem_mapUpdate ho ((htb t i hi).map hk) hm hx hy, Za9 hl, .inl rfl⟩
            · cases h
          · cases h
        · cases h
      · cases h
    · cases h
  · cases h
theorem evMap_rd {kn : Nat} {op : Op} {r : EvR} (h : evMap tb get l kn op = some r) : RdIn l r.rd := by
  unfold evMap at h
  (repeat' split at h) <;> first
    | (cases h; done)
    | (simp only [Option.some.injEq] at h; subst h; first | exact Za7 | exact Za9 (by assumption))
/-- A part of a slice that nobody writes, with its room cut off. -/
theorem opsem_cap {o : Oper} {t e : Nat} {i ie : TI} {x y y2 : Operand} {xs : List Int} {z : Int} (ho : o.op = .slice t x none (some y) (some y2)) (ht : TOK P t i) (hk : i.k = .slc e) (he : TOK P e ie) (hsz : ie.size = 1) (hx : get x = .roI xs) (hy : get y = .int .i64 z) (hy2 : get y2 = .int .i64 z) (h0 : 0 ≤ z) (h1 : z ≤ xs.length) :
    OpSem P o get (.roI (xs.take z.toNat)) [] [] none :=
  Zdu fun K Z ν w ev μ rs hone hg hv hrd => by
    obtain ⟨z, rfl⟩ := Int.eq_ofNat_of_zero_le h0
    simp only [Int.toNat_natCast]
    obtain ⟨rx, _⟩ := hv x (by rw [ho]; simp [Op.operands])
    obtain ⟨ry, _⟩ := hv y (by rw [ho]; simp [Op.operands])
    obtain ⟨ry2, _⟩ := hv y2 (by rw [ho]; simp [Op.operands])
    rw [hx] at rx
    rw [hy] at ry
    rw [hy2] at ry2
    have ey := one1 ry
    have ey2 := one1 ry2
    obtain ⟨A, cap, ex, c1, c2, c3⟩ := rx
    simp only [List.cons.injEq, and_true] at ex
    have hz : z ≤ xs.length := by omega
    have hs : (sizeOf e).run P w = .ok 1 w := by rw [Zb2 he, hsz]
    have g1 : z ≤ cap := by omega
    have hrun : (Instr.sliceAt t (ev x) none (some (ev y)) (some (ev y2))).run P w = .ok (.slice (if z = 0 then A else A.map (·.add (0 * 1))) (z - 0) (z - 0)) w := by
      rw [ex, ey, ey2]
      simp [Instr.sliceAt, Instr.slice, Instr.sliceBounds, Instr.sliceBound, asIntOf, Sem.run_bind, run_underlying (ht.slc e hk), hs, Result.andThen, Sem.run, g1]
    refine ⟨.slice (if z = 0 then A else A.map (·.add (0 * 1))) (z - 0) (z - 0), by simp [execOp, ho, Sem.run_bind, hrun, Result.andThen, Sem.run], ?_, rfl⟩
    show roRow Z w 1 (xs.take z).length (intAt (xs.take z)) _
    have hl : (xs.take z).length = z := by rw [List.length_take]; omega
    rw [hl]
    refine ⟨_, _, rfl, by omega, by omega, fun hp => ?_⟩
    obtain ⟨b, o', hA, hZ, hj⟩ := c3 (by omega)
    refine ⟨b, o', ?_, hZ, fun j hjz => ?_⟩
    · rw [if_neg (by omega), hA]; simp [Addr.add_lit]
    · obtain ⟨es, e1, e2, e3⟩ := hj j (by omega)
      refine ⟨es, ?_, e2, e3⟩
      rw [intAt] at e1 ⊢
      rw [e1, List.getD_eq_getElem?_getD, List.getD_eq_getElem?_getD, List.getElem?_take, if_pos hjz]
def evCap (tb : Nat → Option TI) (get : Operand → AV) (t : Nat) (x : Operand) (lo hi : Option Operand) (mx : Operand) : Option EvR :=
  match lo, hi with
  | none, some y => match tb t with
    | some i => match i.k with
      | .slc e => match tb e with
        | some ie => if Nat.beq ie.size 1 then (match get x with
          | .roI xs => match get y, get mx with
            | .int .i64 z, .int .i64 z' => some ⟨.roI (xs.take z.toNat), [], [], none, z' = z ∧ 0 ≤ z ∧ z ≤ xs.length⟩
            | _, _ => none
          | _ => none) else none
        | none => none
      | _ => none
    | none => none
  | _, _ => none
theorem evCap_ok (htb : TabOK P tb) {o : Oper} {t kn : Nat} {x mx : Operand} {lo hi : Option Operand} (ho : o.op = .slice t x lo hi (some mx)) {r : EvR} (h : evCap tb get t x lo hi mx = some r) (hob : r.ob) : EvOK P o get l kn r := by
  unfold evCap at h
  split at h
  · rename_i y
    split at h
    · rename_i i hi
      split at h
      · rename_i e hk
        split at h
        · rename_i ie he
          split at h
          · rename_i hsz
            split at h
            · rename_i xs hx
              split at h
              · rename_i z z' hy hy2
                simp only [Option.some.injEq] at h
                subst h
                obtain ⟨rfl, o2, o3⟩ := hob
                exact ⟨opsem_cap ho (htb t i hi) hk (htb e ie he) (Nat.eq_of_beq_eq_true hsz) hx hy hy2 o2 o3, Za7, .inl rfl⟩
              · cases h
            · cases h
          · cases h
        · cases h
      · cases h
    · cases h
  · cases h
theorem evCap_rd {t : Nat} {x mx : Operand} {lo hi : Option Operand} {r : EvR} (h : evCap tb get t x lo hi mx = some r) : RdIn l r.rd := by
  unfold evCap at h
  (repeat' split at h) <;> first
    | (cases h; done)
    | (simp only [Option.some.injEq] at h; subst h; exact Za7)
/-- Whether a slice type's elements are numbers. -/
def isIntS (tb : Nat → Option TI) (t : Nat) : Bool :=
  match tb t with
  | some i => match i.k with
    | .slc e => match tb e with
      | some ie => match ie.zero with | .int _ _ => true | _ => false
      | none => false
    | _ => false
  | none => false
end
end Go.Proofs.Ytbcghiagomkadaa.Cal
