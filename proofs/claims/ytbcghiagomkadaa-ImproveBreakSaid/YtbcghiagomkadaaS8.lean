/- Own texts of the proof, merged, in order. -/
import Derived.Test.YtbcghiagomkadaaS7
set_option linter.unusedVariables false
set_option linter.unusedSimpArgs false
namespace Go.Proofs.Ytbcghiagomkadaa.Cal
open Go
def evCall (sp : Nat → Option Spec) (get : Operand → AV) (l : List (Nat × Option Blk)) (kn : Nat) (c : Call) : Option EvR :=
  match c.callee with
  | .value x => match get x with
    | .fn f caps => if properL caps then (match sp f with
      | some S => match viewA l (appL (ofL get c.args.toList) caps) with
        | some (a', rd) => match S (lsOf a') with
          | some r => ofSR kn rd r
          | none => none
        | none => none
      | none => none) else none
    | _ => none
  | _ => none
def ev1 (tb : Nat → Option TI) (sp : Nat → Option Spec) (get : Operand → AV) (l : List (Nat × Option Blk)) (kn : Nat) (alt : Bool) (op : Op) : Option EvR :=
  match op with
  | .call c => match c.callee with
    | .value _ => evCall sp get l kn c
    | .builtin .copy => evCopy tb get l c
    | .builtin .append => (match alt with | true => evFz kn (evx tb get l kn false (.call c)) | false => evx tb get l kn false (.call c))
    | _ => evx tb get l kn alt (.call c)
  | .defer _ => none
  | .slice t x lo hi none => (match get x with | .own k => evCut tb get l kn t k lo hi | _ => evx tb get l kn alt (.slice t x lo hi none))
  | .slice t x lo hi (some mx) => evCap tb get t x lo hi mx
  | .makeMap t q => evMap tb get l kn (.makeMap t q)
  | .lookup t m x ok => evMap tb get l kn (.lookup t m x ok)
  | .mapUpdate t m x y => evMap tb get l kn (.mapUpdate t m x y)
  | .makeSlice t a c => (match alt && isIntS tb t with | true => evFz kn (evx tb get l kn false (.makeSlice t a c)) | false => evx tb get l kn alt (.makeSlice t a c))
  | op => evx tb get l kn alt op
def guardOf (ops : List Oper) (get : Operand → AV) (o : Oper) : Option (Option Bool) :=
  match o.guard with
  | none => some none
  | some (j, want) => match ops[j]? with
    | some oj => match oj.dst with
      | some d => match get (.tmp d) with
        | .bool b => some (some (bif want then b else !b))
        | .whn g u => match u with
          | .bool b => some (some (g && bif want then b else !b))
          | _ => none
        | _ => none
      | none => none
    | none => none
def gds : List AV → Prop
  | [] => True
  | u :: t => gd u ∧ gds t
def whnR (g : Bool) (gs : Prop) : Option EvR → Option EvR
  | some r => match r.wr, r.kn with
    | [], none => some ⟨.whn g r.val, r.rd, [], none, g = true → gs ∧ r.ob⟩
    | _, _ => none
  | none => none
def evo (tb : Nat → Option TI) (sp : Nat → Option Spec) (ops : List Oper) (get : Operand → AV) (l : List (Nat × Option Blk)) (kn : Nat) (alt : Bool) (o : Oper) : Option EvR :=
  match guardOf ops get o with
  | none => none
  | some none => ev1 tb sp get l kn alt o.op
  | some (some g) => match o.op with
    | .pick c a b => whnR g True (evPick (get c) (get a) (get b))
    | op => whnR g (gds (op.operands.toList.map get)) (ev1 tb sp (fun x => strip (get x)) l kn alt op)
def tmpsOf : List Operand → List Nat
  | [] => []
  | x :: t => match x with | .tmp d => d :: tmpsOf t | _ => tmpsOf t
def guardTmp (ops : List Oper) (o : Oper) : List Nat :=
  match o.guard with
  | none => []
  | some (j, _) => match ops[j]? with
    | some oj => oj.dst.toList
    | none => []
def lke : List (Nat × AV) → Nat → AV
  | [], _ => .any
  | (k, v) :: t, s => match Nat.beq s k with | true => v | false => lke t s
def del (k : Nat) : List (Nat × Option Blk) → List (Nat × Option Blk)
  | [] => []
  | (k', b) :: t => match Nat.beq k k' with | true => del k t | false => (k', b) :: del k t
def set1 (k : Nat) (b : Blk) : List (Nat × Option Blk) → List (Nat × Option Blk)
  | [] => [(k, some b)]
  | (k', b') :: t => match Nat.beq k k' with | true => (k, some b) :: t | false => (k', b') :: set1 k b t
def setW : List (Nat × Option Blk) → List (Nat × Option Blk) → List (Nat × Option Blk)
  | [], l => l
  | (k, some b) :: w, l => set1 k b (setW w l)
  | (k, none) :: w, l => del k (setW w l)
structure ER where
  its : List Item
  env : List (Nat × AV)
  l : List (Nat × Option Blk)
  ob : Prop
def putE (o : Option Nat) (v : AV) (e : List (Nat × AV)) : List (Nat × AV) := match o with | some d => (d, v) :: e | none => e
def evOps (tb : Nat → Option TI) (sp : Nat → Option Spec) (ch : Nat → Bool) (m : Nat) (all : List Oper) : List Oper → Nat → List (Nat × AV) → List (Nat × Option Blk) → ER
  | [], _, e, l => ⟨[], e, l, True⟩
  | o :: t, i, e, l => match evo tb sp all (opv (lke e)) l (m + i) (ch i) o with
    | none => ⟨[], e, l, False⟩
    | some r =>
      let q := evOps tb sp ch m all t (i + 1) (putE o.dst r.val e) (setW r.wr l)
      ⟨⟨o.dst, (tmpsOf o.op.operands.toList ++ guardTmp all o).map (fun t => (t, lke e t)), r.val, r.rd, r.wr, r.kn⟩ :: q.its, q.env, q.l, r.ob ∧ q.ob⟩
structure CS where
  m : Nat
  env : List (Nat × AV)
  rs : List (Nat × Option Blk)
  ms : List Nat
def CS.st (s : CS) : St := ⟨ltK s.m, lke s.env, lkr s.rs, s.ms⟩
theorem beqN {a b : Nat} (h : a ≠ b) : Nat.beq a b = false := by cases hb : Nat.beq a b with | false => rfl | true => exact absurd (Nat.eq_of_beq_eq_true hb) h
theorem Zeh {o : Option Nat} {v : AV} {e : List (Nat × AV)} : lke (putE o v e) = putO (lke e) o v := by
  cases o with
  | none => rfl
  | some d => rfl
theorem lkr_del {k : Nat} {l : List (Nat × Option Blk)} : lkr (del k l) = fun j => if j = k then none else lkr l j := by
  funext j
  induction l with
  | nil => simp [del, lkr, lko]
  | cons p t ih =>
    obtain ⟨k', b⟩ := p
    simp only [del]
    by_cases hk : k = k'
    · subst hk
      rw [Nat.beq_refl]
      dsimp only
      rw [ih]
      by_cases hj : j = k
      · simp [hj]
      · simp only [if_neg hj, lkr, lko, beqN hj]
    · rw [beqN hk]
      dsimp only
      simp only [lkr, lko] at ih ⊢
      by_cases hj : j = k'
      · subst hj; rw [Nat.beq_refl, if_neg (Ne.symm hk)]
      · rw [beqN hj]; exact ih
theorem Zgf {k : Nat} {b : Blk} {l : List (Nat × Option Blk)} : lkr (set1 k b l) = fun j => if j = k then some b else lkr l j := by
  funext j
  induction l with
  | nil =>
    by_cases hj : j = k
    · subst hj; simp [set1, lkr, lko, Nat.beq_refl]
    · simp [set1, lkr, lko, beqN hj, hj]
  | cons p t ih =>
    obtain ⟨k', b'⟩ := p
    simp only [set1]
    by_cases hk : k = k'
    · subst hk
      rw [Nat.beq_refl]
      by_cases hj : j = k
      · subst hj; simp [lkr, lko, Nat.beq_refl]
      · simp only [lkr, lko, beqN hj, if_neg hj]
    · rw [beqN hk]
      dsimp only
      simp only [lkr, lko] at ih ⊢
      by_cases hj : j = k'
      · subst hj; rw [Nat.beq_refl, if_neg (Ne.symm hk)]
      · rw [beqN hj]; exact ih
theorem Ze4 : ∀ {wr l : List (Nat × Option Blk)}, lkr (setW wr l) = updL (lkr l) wr
  | [], l => rfl
  | (k, some b) :: w, l => by
    simp only [setW, Zgf, Ze4 (wr := w)]
    funext j
    simp only [updL, lko]
    by_cases hj : j = k
    · subst hj; simp [Nat.beq_refl]
    · simp only [beqN hj, if_neg hj]
  | (k, none) :: w, l => by
    simp only [setW, lkr_del, Ze4 (wr := w)]
    funext j
    simp only [updL, lko]
    by_cases hj : j = k
    · subst hj; simp [Nat.beq_refl]
    · simp only [beqN hj, if_neg hj]
theorem mem_tmps {xs : List Operand} {t : Nat} (h : Operand.tmp t ∈ xs) : t ∈ tmpsOf xs := by
  induction xs with
  | nil => cases h
  | cons x xs ih =>
    rcases List.mem_cons.1 h with rfl | h
    · simp [tmpsOf]
    · have := ih h
      cases x <;> simp [tmpsOf, this]
def SpOK (P : Program) (sp : Nat → Option Spec) : Prop := ∀ f S, sp f = some S → FSpec P f S
section
variable {P : Program} {ro : Option Nat} {N κ : Nat} {tb : Nat → Option TI} {sp : Nat → Option Spec}
structure DoOK (P : Program) (ro : Option Nat) (o : Oper) (get : Operand → AV) (l : List (Nat × Option Blk)) (kn : Nat) (r : EvR) : Prop where
  does : Does P ro o get r.val r.rd r.wr r.kn
  rd : RdIn l r.rd
  kn : r.kn = none ∨ r.kn = some kn
theorem ofSR_same {kn : Nat} {rd : List (Nat × Blk)} {r : SR} {r' : EvR} (h : ofSR kn rd r = some r') : r'.rd = rd ∧ (r'.kn = none ∨ r'.kn = some kn) ∧ (r'.ob → r.ob) := by
  unfold ofSR at h
  split at h <;> split at h <;> first | (cases h; done) | (simp only [Option.some.injEq] at h; subst h; exact ⟨rfl, by simp, id⟩)
theorem ev1_ok (htb : TabOK P tb) (hmz : ∀ t i, tb t = some i → men noK i.zero = true) (hsp : SpOK P sp) (o : Oper) {get : Operand → AV} {l : List (Nat × Option Blk)} {kn : Nat} {alt : Bool} {r : EvR} (h : ev1 tb sp get l kn alt o.op = some r) (hob : r.ob) :
    DoOK P ro o get l kn r ∧ ∀ c, o.op ≠ .defer c := by
  have plain : (∀ c, o.op ≠ .defer c) → evx tb get l kn alt o.op = some r → DoOK P ro o get l kn r ∧ ∀ c, o.op ≠ .defer c := fun hnd h => by
    obtain ⟨h1, h2, h3⟩ := Zhu htb hmz o h hob
    exact ⟨⟨Zcf hnd h1, h2, h3⟩, hnd⟩
  unfold ev1 at h
  split at h
  · rename_i c ho
    split at h
    · rename_i x hx
      unfold evCall at h
      rw [hx] at h
      dsimp only at h
      split at h
      · rename_i f caps hf
        split at h
        · rename_i hpc
          split at h
          · rename_i S hS
            split at h
            · rename_i a' rd hv
              split at h
              · rename_i r0 hr
                obtain ⟨e1, e2, e3⟩ := ofSR_same h
                have hceq : o.op = .call ⟨.value x, c.args.toList.toArray, c.argTypes⟩ := by
                  rw [ho]
                  obtain ⟨cal, args, ats⟩ := c
                  simp only at hx
                  subst hx
                  rfl
                refine ⟨⟨?_, by rw [e1]; exact view_rd hv, e2⟩, by rw [ho]; intro c' hc; cases hc⟩
                rw [e1]
                exact does_call hceq hf hpc hv (hsp f S hS) hr h (e3 hob)
              · cases h
            · cases h
          · cases h
        · cases h
      · cases h
    · rename_i hcp
      obtain ⟨h1, h2, h3⟩ := evCopy_ok (kn := kn) htb ho hcp h hob
      have hnd : ∀ c, o.op ≠ .defer c := by rw [ho]; intro c' hc; cases hc
      exact ⟨⟨Zcf hnd h1, h2, h3⟩, hnd⟩
    · have hnd : ∀ c, o.op ≠ .defer c := by rw [ho]; intro c' hc; cases hc
      have plain' : ∀ {r}, evx tb get l kn false o.op = some r → r.ob → EvOK P o get l kn r := fun h hob => Zhu htb hmz o h hob
      split at h
      · obtain ⟨h1, h2, h3⟩ := evFz_ok h hob (fun r' he hob' => plain' (by rw [ho]; exact he) hob')
        exact ⟨⟨Zcf hnd h1, h2, h3⟩, hnd⟩
      · obtain ⟨h1, h2, h3⟩ := plain' (by rw [ho]; exact h) hob
        exact ⟨⟨Zcf hnd h1, h2, h3⟩, hnd⟩
    · exact plain (by rw [ho]; intro c' hc; cases hc) (by rw [ho]; exact h)
  · cases h
  · rename_i t x lo hi ho
    have hnd : ∀ c, o.op ≠ .defer c := by rw [ho]; intro c' hc; cases hc
    split at h
    · rename_i k hx
      obtain ⟨h1, h2, h3⟩ := evCut_ok htb ho hx h hob
      exact ⟨⟨Zcf hnd h1, h2, h3⟩, hnd⟩
    · exact plain hnd (by rw [ho]; exact h)
  · rename_i t x lo hi mx ho
    have hnd : ∀ c, o.op ≠ .defer c := by rw [ho]; intro c' hc; cases hc
    obtain ⟨h1, h2, h3⟩ := evCap_ok (l := l) (kn := kn) htb ho h hob
    exact ⟨⟨Zcf hnd h1, h2, h3⟩, hnd⟩
  · rename_i t q ho
    have hnd : ∀ c, o.op ≠ .defer c := by rw [ho]; intro c' hc; cases hc
    obtain ⟨h1, h2, h3⟩ := Zgl (l := l) (kn := kn) htb (o := o) (by rw [ho]; exact h)
    exact ⟨⟨Zcf hnd h1, h2, h3⟩, hnd⟩
  · rename_i t m x ok ho
    have hnd : ∀ c, o.op ≠ .defer c := by rw [ho]; intro c' hc; cases hc
    obtain ⟨h1, h2, h3⟩ := Zgl (l := l) (kn := kn) htb (o := o) (by rw [ho]; exact h)
    exact ⟨⟨Zcf hnd h1, h2, h3⟩, hnd⟩
  · rename_i t m x y ho
    have hnd : ∀ c, o.op ≠ .defer c := by rw [ho]; intro c' hc; cases hc
    obtain ⟨h1, h2, h3⟩ := Zgl (l := l) (kn := kn) htb (o := o) (by rw [ho]; exact h)
    exact ⟨⟨Zcf hnd h1, h2, h3⟩, hnd⟩
  · rename_i t a c ho
    have hnd : ∀ c, o.op ≠ .defer c := by rw [ho]; intro c' hc; cases hc
    split at h
    · obtain ⟨h1, h2, h3⟩ := evFz_ok h hob (fun r' he hob' => Zhu htb hmz o (by rw [ho]; exact he) hob')
      exact ⟨⟨Zcf hnd h1, h2, h3⟩, hnd⟩
    · exact plain hnd (by rw [ho]; exact h)
  · rename_i h1 h2 h3 h4 h5 h6 h7 h8
    exact plain (fun c hc => h2 c hc) h
theorem evStore_rd {i : TI} {l : List (Nat × Option Blk)} {ua ux : AV} {r : EvR} (h : evStore i l ua ux = some r) : RdIn l r.rd := by
  unfold evStore stBox at h
  (repeat' split at h) <;> first
    | (cases h; done)
    | (simp only [Option.some.injEq] at h; subst h; first | exact Za9 (by assumption) | exact Zbz (by assumption) (Za9 (by assumption)))
theorem evApp_rd {l : List (Nat × Option Blk)} {kn : Nat} {ux uy : AV} {r : EvR} (h : evApp l kn ux uy = some r) : RdIn l r.rd := by
  have hI : ∀ {ys rd}, srcI l uy = some (ys, rd) → RdIn l rd := fun h => (Zfa (rd' := _) h (fun _ hp => hp)).2
  have hB : ∀ {ys rd}, srcB l uy = some (ys, rd) → RdIn l rd := fun h => (Zfb (rd' := _) h (fun _ hp => hp)).2
  have hR : ∀ {ys rd}, srcR l uy = some (ys, rd) → RdIn l rd := fun h => (Zg0 (rd' := _) h (fun _ hp => hp)).2
  unfold evApp at h
  (repeat' split at h) <;> first
    | (cases h; done)
    | (simp only [Option.some.injEq] at h; subst h; first
        | exact Zbz (by assumption) (hI (by assumption))
        | exact Zbz (by assumption) (hB (by assumption))
        | exact Zbz (by assumption) (hR (by assumption))
        | exact hI (by assumption)
        | exact hB (by assumption)
        | exact hR (by assumption))
theorem evAppS_rd {sz : Nat} {l : List (Nat × Option Blk)} {kn : Nat} {ux uy : AV} {r : EvR} (h : evAppS sz l kn ux uy = some r) : RdIn l r.rd := by
  unfold evAppS at h
  (repeat' split at h) <;> first
    | (cases h; done)
    | (simp only [Option.some.injEq] at h; subst h; first | exact Za7 | exact Za9 (by assumption))
theorem ofP_rd {l : List (Nat × Option Blk)} {e : Evp} {r : EvR} (h : ofP e = some r) (hrd : ∀ v rd ob, e = some (v, rd, ob) → RdIn l rd) : RdIn l r.rd := by
  unfold ofP at h
  split at h
  · simp only [Option.some.injEq] at h; subst h; exact hrd _ _ _ rfl
  · cases h
theorem evx_rd {get : Operand → AV} {l : List (Nat × Option Blk)} {kn : Nat} {alt : Bool} {op : Op} {r : EvR} (h : evx tb get l kn alt op = some r) : RdIn l r.rd := by
  unfold evx evBuildS evPick evTake at h
  (repeat' split at h) <;> first
    | (cases h; done)
    | exact evStore_rd h
    | exact evApp_rd h
    | exact evAppS_rd h
    | exact ofP_rd h (fun _ _ _ => evLoad_rd)
    | exact ofP_rd h (fun _ _ _ => evp_rd)
    | (simp only [Option.some.injEq] at h; subst h; first | exact Za7 | exact Za9 (by assumption))
    | (rename_i hh; (repeat' split at hh) <;> first | (cases hh; done) | (simp only [Option.some.injEq] at h hh; subst h; subst hh; exact Za9 (by assumption)))
theorem ev1_rd {get : Operand → AV} {l : List (Nat × Option Blk)} {kn : Nat} {alt : Bool} {op : Op} {r : EvR} (h : ev1 tb sp get l kn alt op = some r) : RdIn l r.rd := by
  unfold ev1 evCall at h
  (repeat' split at h) <;> first
    | (cases h; done)
    | exact evx_rd h
    | exact evCopy_rd h
    | exact evCut_rd h
    | exact evCap_rd h
    | exact evMap_rd h
    | exact evFz_rd h (fun r' he => evx_rd he)
    | (rw [(ofSR_same h).1]; exact view_rd (by assumption))
theorem gds_mem {l : List AV} (h : gds l) : ∀ u, u ∈ l → gd u := by
  induction l with
  | nil => intro u hu; cases hu
  | cons a t ih =>
    intro u hu
    rcases List.mem_cons.1 hu with rfl | hu
    · exact h.1
    · exact ih h.2 u hu
theorem opv_same {e e' : Env} {x : Operand} (h : ∀ t, x = .tmp t → e t = e' t) : opv e x = opv e' x := by
  cases x with
  | tmp t => exact h t rfl
  | _ => rfl
/-- An operation of a region, by the table. -/
theorem evo_ok (htb : TabOK P tb) (hmz : ∀ t i, tb t = some i → men noK i.zero = true) (hsp : SpOK P sp) (ops : List Oper) (o : Oper) {e : Env} {l : List (Nat × Option Blk)} {kn : Nat} {alt : Bool} {r : EvR} (h : evo tb sp ops (opv e) l kn alt o = some r) (hob : r.ob) :
    OpRun P ro N ops.toArray o ⟨o.dst, (tmpsOf o.op.operands.toList ++ guardTmp ops o).map (fun t => (t, e t)), r.val, r.rd, r.wr, r.kn⟩ ∧ RdIn l r.rd ∧ (r.kn = none ∨ r.kn = some kn) := by
  have hin : ∀ (σ : St) {it : Item} {ins : List (Nat × AV)}, Fits N it σ → it.ins = (tmpsOf o.op.operands.toList ++ guardTmp ops o).map (fun t => (t, e t)) → (∀ x, x ∈ o.op.operands → opv σ.env x = opv e x) ∧ ∀ d, d ∈ guardTmp ops o → σ.env d = e d := by
    intro σ it ins hf hins
    have : ∀ t, t ∈ tmpsOf o.op.operands.toList ++ guardTmp ops o → σ.env t = e t := fun t ht => hf.ins (t, e t) (by rw [hins]; exact List.mem_map.2 ⟨t, ht, rfl⟩)
    exact ⟨fun x hx => opv_same fun t ht => this t (List.mem_append_left _ (mem_tmps (by subst ht; simpa using hx))), fun d hd => this d (List.mem_append_right _ hd)⟩
  unfold evo at h
  split at h
  · cases h
  · rename_i hgu
    have hgn : o.guard = none := by
      unfold guardOf at hgu
      cases hg : o.guard with
      | none => rfl
      | some p =>
        rw [hg] at hgu
        dsimp only at hgu
        (repeat' split at hgu) <;> cases hgu
    obtain ⟨⟨hd, hrd, hk⟩, hnd⟩ := ev1_ok (ro := ro) htb hmz hsp o h hob
    refine ⟨?_, hrd, hk⟩
    intro n K Z ν w a σ hgood hf next Q hnext
    simp only [Region.wanted, hgn, if_true]
    refine ⟨fun _ _ => trivial, ?_⟩
    obtain ⟨hx, _⟩ := hin σ (ins := []) hf rfl
    refine hd n K Z ν w a σ.mu σ.rs hgood.one hgood.rs hgood.zk hgood.kl (fun x hxm => ?_) hf.rd hf.kn next Q fun y Z' ν' w' hst hν h1 hrs hr hm hz => hnext Z' ν' w' _ hst hν (hgood.next hf hst hν h1 hrs hr hm hz)
    rw [← hx x hxm]
    exact ⟨Zg5 hgood x, Zfi hgood x⟩
  · rename_i g hgu
    -- what the guard says
    have hgw : ∀ (σ : St) (K Z : Nat → Prop) (ν : Nat → Value) (w : World) (a : Act), Good K Z N w ν σ a → (∀ d, d ∈ guardTmp ops o → σ.env d = e d) → Region.wanted o (yielded ops.toArray a.tmps) = g := by
      intro σ K Z ν w a hgood hins
      unfold guardOf at hgu
      split at hgu
      · cases hgu
      · rename_i j want hg
        split at hgu
        · rename_i oj hoj
          split at hgu
          · rename_i d hd
            have hde : σ.env d = e d := hins d (by unfold guardTmp; rw [hg]; dsimp only; rw [hoj]; dsimp only; rw [hd]; simp)
            have hr := (hgood.env d).2
            rw [hde] at hr
            have hyi : yielded ops.toArray a.tmps j = yielded ops.toArray a.tmps j := rfl
            have hgd : a.tmps.getD d undef = (a.tmps[d]?).getD undef := by simp [Array.getD_eq_getD_getElem?]
            have hsome : ∀ b : Bool, a.tmps.getD d undef = .bool b → yielded ops.toArray a.tmps j = some b := by
              intro b hb
              have : a.tmps[d]? = some (.bool b) := by
                rw [hgd] at hb
                cases ht : a.tmps[d]? with
                | none => rw [ht] at hb; cases hb
                | some x => rw [ht] at hb; simp only [Option.getD_some] at hb; rw [hb]
              unfold yielded
              simp only [List.getElem?_toArray, hoj, Option.bind_some, hd, this]
            have hnone : a.tmps.getD d undef = undef → yielded ops.toArray a.tmps j = none := by
              intro hb
              unfold yielded
              simp only [List.getElem?_toArray, hoj, Option.bind_some, hd]
              rw [hgd] at hb
              cases ht : a.tmps[d]? with
              | none => rfl
              | some x => rw [ht] at hb; simp only [Option.getD_some] at hb; subst hb; rfl
            have hwt : Region.wanted o (yielded ops.toArray a.tmps) = (yielded ops.toArray a.tmps j == some want) := by simp only [Region.wanted, hg]
            rw [hwt]
            split at hgu
            · rename_i b hb
              simp only [Option.some.injEq] at hgu
              have hb : e d = .bool b := hb
              rw [hb] at hr
              rw [hsome b (one1 hr), ← hgu]
              cases b <;> cases want <;> rfl
            · rename_i g' u hb
              have hb : e d = .whn g' u := hb
              rw [hb] at hr
              split at hgu
              · simp only [Option.some.injEq] at hgu
                subst hgu
                rename_i bb _
                cases g' with
                | true =>
                  rw [hsome bb (one1 (hr.1 rfl))]
                  cases bb <;> cases want <;> rfl
                | false =>
                  rw [hnone (one1 (hr.2 rfl))]
                  cases want <;> rfl
              · cases hgu
            · cases hgu
          · cases hgu
        · cases hgu
    -- what it does where it is wanted
    have fin : ∀ (get : Operand → AV) (gs : Prop) (r0 : EvR), whnR g gs (some r0) = some r → (g = true → gs → r0.ob → DoOK P ro o get l kn r0) → (g = false → RdIn l r0.rd) → (g = true → gs → ∀ (σ : St) (K Z : Nat → Prop) (ν : Nat → Value) (w : World) (a : Act), Good K Z N w ν σ a → (∀ x, x ∈ o.op.operands → opv σ.env x = opv e x) → ∀ x, x ∈ o.op.operands → R Z w (get x) ν true [a.eval x] ∧ men σ.mu (get x) = true) →
        OpRun P ro N ops.toArray o ⟨o.dst, (tmpsOf o.op.operands.toList ++ guardTmp ops o).map (fun t => (t, e t)), r.val, r.rd, r.wr, r.kn⟩ ∧ RdIn l r.rd ∧ (r.kn = none ∨ r.kn = some kn) := by
      intro get gs r0 hw hd hrd hrel
      unfold whnR at hw
      dsimp only at hw
      split at hw
      · rename_i hwr hkn
        simp only [Option.some.injEq] at hw
        subst hw
        refine ⟨?_, ?_, .inl rfl⟩
        · intro n K Z ν w a σ hgood hf next Q hnext
          obtain ⟨hx, hgi⟩ := hin σ (ins := []) hf rfl
          rw [hgw σ K Z ν w a hgood hgi]
          cases hgv : g with
          | true =>
            rw [if_pos rfl]
            refine ⟨fun _ _ => trivial, ?_⟩
            obtain ⟨hgs, hob0⟩ := hob hgv
            have hD := (hd hgv hgs hob0).does
            rw [hwr, hkn] at hD
            refine hD n K Z ν w a σ.mu σ.rs hgood.one hgood.rs hgood.zk hgood.kl (hrel hgv hgs σ K Z ν w a hgood hx) hf.rd (fun k hk => by cases hk) next Q fun y Z' ν' w' hst hν h1 hrs hr hm hz => hnext Z' ν' w' _ hst hν (hgood.next hf hst hν h1 hrs ⟨fun _ => hr, fun hg' => absurd (hgv.symm.trans hg') (by simp)⟩ (by show (!g || men (addK σ.mu none) r0.val) = true; rw [hm]; simp) hz)
          | false =>
            rw [if_neg (by simp)]
            refine ⟨fun _ _ => trivial, hnext Z ν w _ (Step.refl K Z w) (fun _ _ => rfl) (hgood.next hf (Step.refl K Z w) (fun _ _ => rfl) hgood.one ?_ ⟨fun hg' => absurd (hgv.symm.trans hg') (by simp), fun _ => rfl⟩ (by show (!g || men (addK σ.mu none) r0.val) = true; rw [hgv]; rfl) (fun b hb => hgood.kl b (hgood.zk b hb)))⟩
            rw [Zbq hgood.zk]
            exact hgood.rs
        · cases hgv : g with
          | true => exact (hd hgv (hob hgv).1 (hob hgv).2).rd
          | false => exact hrd hgv
      · cases hw
    have rel : ∀ (σ : St) (K Z : Nat → Prop) (ν : Nat → Value) (w : World) (a : Act), Good K Z N w ν σ a → (∀ x, x ∈ o.op.operands → opv σ.env x = opv e x) → ∀ x, x ∈ o.op.operands → R Z w (opv e x) ν true [a.eval x] ∧ men σ.mu (opv e x) = true := fun σ K Z ν w a hgood hx x hxm => by
      rw [← hx x hxm]
      exact ⟨Zg5 hgood x, Zfi hgood x⟩
    split at h
    · rename_i c x y ho
      cases he : evPick (opv e c) (opv e x) (opv e y) with
      | none => rw [he] at h; cases h
      | some r0 =>
        rw [he] at h
        refine fin (opv e) True r0 h (fun _ _ hob0 => ?_) (fun _ => ?_) (fun _ _ => rel)
        · obtain ⟨h1, h2, h3⟩ := evPick_ok (P := P) (l := l) (kn := kn) ho he hob0
          exact ⟨Zcf (by rw [ho]; intro c hc; cases hc) h1, h2, h3⟩
        · unfold evPick at he
          (repeat' split at he) <;> first | (cases he; done) | (simp only [Option.some.injEq] at he; subst he; exact Za7)
    · rename_i op hnp
      cases he : ev1 tb sp (fun x => strip (opv e x)) l kn alt o.op with
      | none => rw [he] at h; cases h
      | some r0 =>
        rw [he] at h
        have hrd0 : RdIn l r0.rd := ev1_rd he
        refine fin (fun x => strip (opv e x)) _ r0 h (fun _ _ hob0 => (ev1_ok htb hmz hsp o he hob0).1) (fun _ => hrd0) (fun _ hgs σ K Z ν w a hgood hx x hxm => ?_)
        have hgdx : gd (opv e x) := gds_mem hgs _ (List.mem_map.2 ⟨x, by simpa using hxm, rfl⟩)
        obtain ⟨r1, r2⟩ := rel σ K Z ν w a hgood hx x hxm
        exact ⟨Zf4 hgdx r1, strip_men hgdx r2⟩
end
end Go.Proofs.Ytbcghiagomkadaa.Cal
namespace Go.Proofs.Ytbcghiagomkadaa.Cal
open Go
section
variable {P : Program} {ro : Option Nat} {N κ : Nat} {tb : Nat → Option TI} {sp : Nat → Option Spec}
def dstOK (N : Nat) : List Oper → Bool
  | [] => true
  | o :: t => (match o.dst with | some d => Nat.blt d N | none => true) && dstOK N t
theorem runsTo_congr {its its' : Nat → Item} : ∀ {L : List Nat} {s s' : St}, (∀ i, i ∈ L → its i = its' i) → runsTo N its L s s' → runsTo N its' L s s' := by
  intro L
  induction L with
  | nil => intro s s' _ h; exact h
  | cons i L ih =>
    intro s s' he h
    obtain ⟨f, h⟩ := h
    have e := he i List.mem_cons_self
    exact ⟨e ▸ f, by rw [← e]; exact ih (fun j hj => he j (List.mem_cons_of_mem _ hj)) h⟩
theorem Zen (htb : TabOK P tb) (hmz : ∀ t i, tb t = some i → men noK i.zero = true) (hsp : SpOK P sp) (ch : Nat → Bool) (m : Nat) (all : List Oper) (ms : List Nat) : ∀ (os : List Oper) (i : Nat) (e : List (Nat × AV)) (l : List (Nat × Option Blk)) (μ : Nat → Bool), dstOK N os = true →
    (∀ k, m + i ≤ k → μ k = false) → (evOps tb sp ch m all os i e l).ob → (evOps tb sp ch m all os i e l).its.length = os.length ∧ (∀ j o, os[j]? = some o → OpRun P ro N all.toArray o (itemAt (evOps tb sp ch m all os i e l).its j)) ∧
      ∃ μ', (∀ k, m + i + os.length ≤ k → μ' k = false) ∧ (∀ k, μ k = true → μ' k = true) ∧
        runsTo N (fun x => itemAt (evOps tb sp ch m all os i e l).its (x - i)) (List.range' i os.length) ⟨μ, lke e, lkr l, ms⟩ ⟨μ', lke (evOps tb sp ch m all os i e l).env, lkr (evOps tb sp ch m all os i e l).l, ms⟩ := by
  intro os
  induction os with
  | nil => intro i e l μ _ hμ _; exact ⟨rfl, fun j o h => by simp at h, μ, hμ, fun _ h => h, rfl⟩
  | cons o os ih =>
    intro i e l μ hN hμ hob
    simp only [dstOK, Bool.and_eq_true] at hN
    simp only [evOps] at hob ⊢
    cases hev : evo tb sp all (opv (lke e)) l (m + i) (ch i) o with
    | none => rw [hev] at hob; exact hob.elim
    | some r =>
      rw [hev] at hob
      dsimp only at hob ⊢
      obtain ⟨h1, h2, h3⟩ := evo_ok (ro := ro) (N := N) htb hmz hsp all o hev hob.1
      have hμ' : ∀ k, m + (i + 1) ≤ k → addK μ r.kn k = false := by
        intro k hk
        have h0 := hμ k (by omega)
        rcases h3 with h3 | h3
        · rw [h3]; exact h0
        · rw [h3]
          simp only [addK, h0, Bool.false_or]
          exact beqN (by omega)
      obtain ⟨g1, g2, μ', g3, g4, g5⟩ := ih (i + 1) (putE o.dst r.val e) (setW r.wr l) (addK μ r.kn) hN.2 hμ' hob.2
      refine ⟨by simp [g1], fun j o' hj => ?_, μ', fun k hk => g3 k (by simp at hk; omega), fun k hk => g4 k (Zby k hk), ?_⟩
      · cases j with
        | zero => simp at hj; subst hj; exact h1
        | succ j => exact g2 j o' hj
      · rw [List.length_cons, List.range'_succ]
        refine ⟨?_, ?_⟩
        · show Fits N (itemAt _ (i - i)) _
          rw [Nat.sub_self]
          refine ⟨fun p hp => ?_, h2, fun k hk => ?_, fun d hd => ?_⟩
          · obtain ⟨t, _, rfl⟩ := List.mem_map.1 hp
            rfl
          · have hk : r.kn = some k := hk
            rcases h3 with h3 | h3
            · rw [h3] at hk; cases hk
            · rw [h3] at hk; cases hk; exact hμ _ (Nat.le_refl _)
          · have hd : o.dst = some d := hd
            rw [hd] at hN
            simpa using hN.1
        · show runsTo N _ _ ((itemAt _ (i - i)).app _) _
          rw [Nat.sub_self]
          have happ : (itemAt (⟨o.dst, (tmpsOf o.op.operands.toList ++ guardTmp all o).map (fun t => (t, lke e t)), r.val, r.rd, r.wr, r.kn⟩ :: (evOps tb sp ch m all os (i + 1) (putE o.dst r.val e) (setW r.wr l)).its) 0).app ⟨μ, lke e, lkr l, ms⟩ = ⟨addK μ r.kn, lke (putE o.dst r.val e), lkr (setW r.wr l), ms⟩ := by
            rw [Zeh, Ze4]; rfl
          rw [happ]
          refine runsTo_congr (fun x hx => ?_) g5
          have : i + 1 ≤ x := by
            rw [List.mem_range'] at hx
            obtain ⟨q, _, rfl⟩ := hx
            omega
          obtain ⟨q, rfl⟩ : ∃ q, x = i + 1 + q := ⟨x - (i + 1), by omega⟩
          show itemAt _ (i + 1 + q - (i + 1)) = itemAt (_ :: _) (i + 1 + q - i)
          rw [show i + 1 + q - (i + 1) = q from by omega, show i + 1 + q - i = q + 1 from by omega]
          rfl
theorem Good.widen {K Z : Nat → Prop} {w : World} {ν : Nat → Value} {μ μ' : Nat → Bool} {env : Env} {rs : Rs} {ms : List Nat} {a : Act} (hg : Good K Z N w ν ⟨μ, env, rs, ms⟩ a) (h : ∀ k, μ k = true → μ' k = true) : Good K Z N w ν ⟨μ', env, rs, ms⟩ a :=
  ⟨hg.size, hg.one, fun s => ⟨Zc2 h (hg.env s).1, (hg.env s).2⟩, hg.rs.nu h (fun _ _ => rfl), hg.zk, hg.kl, hg.ds, fun k hk => h k (hg.ml k hk)⟩
theorem awp_widen {c : Code} {σ : St} {s : CS} {μ' : Nat → Bool} {env : List (Nat × AV)} {l : List (Nat × Option Blk)} {ms : List Nat} {m' : Nat} {Q : Exit → St → Prop} (h : awp P ro N κ c σ fun e s => e = .normal ∧ s = ⟨μ', lke env, lkr l, ms⟩) (hμ : ∀ k, m' ≤ k → μ' k = false) (hq : Q .normal (CS.st ⟨m', env, l, ms⟩)) : awp P ro N κ c σ Q := by
  intro n K Z ν w a hg
  refine wpIn_mono (h n K Z ν w a hg) ?_
  rintro e a' w' ⟨Z', ν', s', h1, h2, h3, rfl, rfl⟩
  refine ⟨Z', ν', _, h1, h2, h3.widen fun k hk => ?_, hq⟩
  show Nat.blt k m' = true
  rw [Nat.blt_eq]
  rcases Nat.lt_or_ge k m' with h | h
  · exact h
  · rw [hμ k h] at hk; cases hk
/-- A region whose order the text gives. -/
theorem awp_text (htb : TabOK P tb) (hmz : ∀ t i, tb t = some i → men noK i.zero = true) (hsp : SpOK P sp) (ch : Nat → Bool) {id : Nat} {ops : List Oper} {s : CS} {Q : Exit → St → Prop} (hN : dstOK N ops = true) (hκ : Nat.ble κ s.m = true)
    (h : ∀ q, q = evOps tb sp ch s.m ops ops 0 s.env s.rs → q.ob ∧ Q .normal (CS.st ⟨s.m + ops.length, q.env, q.l, s.ms⟩)) : awp P ro N κ (.region id ops.toArray false) s.st Q := by
  obtain ⟨hob, hq⟩ := h _ rfl
  obtain ⟨h1, h2, μ', h3, h4, h5⟩ := Zen (ro := ro) (N := N) htb hmz hsp ch s.m ops s.ms ops 0 s.env s.rs (ltK s.m) hN (fun k hk => by show Nat.blt k s.m = false; cases hb : Nat.blt k s.m with | false => rfl | true => rw [Nat.blt_eq] at hb; omega) hob
  refine awp_widen (s := s) (μ' := μ') ?_ (m' := s.m + ops.length) (fun k hk => h3 k (by omega)) hq
  intro n K Z ν w a hg
  refine wpIn_region ?_
  rw [List.size_toArray, List.range_eq_range']
  refine run_text (its := fun x => itemAt (evOps tb sp ch s.m ops ops 0 s.env s.rs).its (x - 0)) (σ' := ⟨μ', lke (evOps tb sp ch s.m ops ops 0 s.env s.rs).env, lkr (evOps tb sp ch s.m ops ops 0 s.env s.rs).l, s.ms⟩) ⟨rfl, rfl⟩ (List.range' 0 ops.length) s.st (fun i hi => ?_) (fun k hk => ?_) h5 n K Z ν w a hg
  · rw [List.mem_range'] at hi
    obtain ⟨q, hq, rfl⟩ := hi
    have hlt : 0 + 1 * q < ops.length := by omega
    refine ⟨ops[0 + 1 * q], by simp, ?_⟩
    exact h2 _ _ (List.getElem?_eq_getElem hlt)
  · show Nat.blt k s.m = true
    rw [Nat.blt_eq]
    have := Nat.le_of_ble_eq_true hκ
    omega
theorem Good.drew {K Z : Nat → Prop} {w : World} {ν : Nat → Value} {σ : St} {a : Act} (hg : Good K Z N w ν σ a) (d : Nat) : Good K Z N { w with drawn := d } ν σ a := by
  have hz : ∀ b, Z b → ({ w with drawn := d } : World).heap[b]? = w.heap[b]? := fun _ _ => rfl
  refine ⟨hg.size, hg.one, fun s => ⟨(hg.env s).1, Zbk (fun _ h => h) hz (hg.env s).2⟩, hg.rs.mono (fun _ h => h) hz (Nat.le_refl _) (fun _ h => .inl h) (fun _ _ _ => rfl), hg.zk, hg.kl, hg.ds, hg.ml⟩
/-- A region whose order is open: its operations do not meet, but where an edge orders them. -/
theorem awp_draw (hmo : P.follows .mixedOrders = true) (htb : TabOK P tb) (hmz : ∀ t i, tb t = some i → men noK i.zero = true) (hsp : SpOK P sp) (ch : Nat → Bool) {id : Nat} {ops : List Oper} {s : CS} {Q : Exit → St → Prop} (hN : dstOK N ops = true) (hκ : Nat.ble κ s.m = true)
    (hd : drawOK ops (evOps tb sp ch s.m ops ops 0 s.env s.rs).its = true)
    (h : ∀ q, q = evOps tb sp ch s.m ops ops 0 s.env s.rs → q.ob ∧ Q .normal (CS.st ⟨s.m + ops.length, q.env, q.l, s.ms⟩)) : awp P ro N κ (.region id ops.toArray true) s.st Q := by
  obtain ⟨hob, hq⟩ := h _ rfl
  obtain ⟨h1, h2, μ', h3, h4, h5⟩ := Zen (ro := ro) (N := N) htb hmz hsp ch s.m ops s.ms ops 0 s.env s.rs (ltK s.m) hN (fun k hk => by show Nat.blt k s.m = false; cases hb : Nat.blt k s.m with | false => rfl | true => rw [Nat.blt_eq] at hb; omega) hob
  refine awp_widen (s := s) (μ' := μ') ?_ (m' := s.m + ops.length) (fun k hk => h3 k (by omega)) hq
  intro n K Z ν w a hg
  refine wpIn_region_any hmo ?_
  have hstep : Step K Z w Z { w with drawn := w.drawn + 1 } := ⟨⟨rfl, rfl, rfl, Nat.le_refl _, fun _ _ => rfl⟩, fun _ h => h, fun _ h => .inl h⟩
  have hg1 := hg.drew (w.drawn + 1)
  have h5' : runsTo N (itemAt (evOps tb sp ch s.m ops ops 0 s.env s.rs).its) (List.range' 0 ops.length) s.st ⟨μ', lke (evOps tb sp ch s.m ops ops 0 s.env s.rs).env, lkr (evOps tb sp ch s.m ops ops 0 s.env s.rs).l, s.ms⟩ := h5
  have := run_any (P := P) (ro := ro) (N := N) (κ := κ) (ops := ops.toArray) (Q := fun e s' => e = .normal ∧ s' = ⟨μ', lke (evOps tb sp ch s.m ops ops 0 s.env s.rs).env, lkr (evOps tb sp ch s.m ops ops 0 s.env s.rs).l, s.ms⟩) (evOps tb sp ch s.m ops ops 0 s.env s.rs).its hd
    (fun i hi => ⟨ops[i]'(by simpa using hi), by simp, h2 _ _ (List.getElem?_eq_getElem (by simpa using hi))⟩) ⟨rfl, rfl⟩ ops.toArray.size (Array.replicate ops.toArray.size false) (List.range' 0 ops.length) s.st (by simp) (by simp)
    (fun i => by
      rw [List.mem_range']
      constructor
      · rintro ⟨q, hq, rfl⟩
        refine ⟨by simp; omega, ?_⟩
        simp [Array.getD_eq_getD_getElem?, Array.getElem?_replicate, hq]
      · rintro ⟨h, _⟩
        exact ⟨i, by simpa using h, by omega⟩)
    (by simpa using List.pairwise_lt_range' (s := 0) (n := ops.length))
    (fun i o ho hl p hp => by
      have hi : i < ops.length := by have := (Array.getElem?_eq_some_iff.1 ho).1; simpa using this
      simp [Array.getD_eq_getD_getElem?, Array.getElem?_replicate, hi] at hl)
    (fun k hk => by
      show Nat.blt k s.m = true
      rw [Nat.blt_eq]
      have := Nat.le_of_ble_eq_true hκ
      omega) h5' n K Z ν _ a hg1
  exact run_any.wpAnyIn_mono' this fun e a' w' hp => by
    have e := Post.trans (N := N) (κ := κ) (K := K) (Z := Z) (w := w) (ν := ν) hstep (fun _ _ => rfl) (by rw [Zbq hg.zk]; exact hp)
    exact e
end
end Go.Proofs.Ytbcghiagomkadaa.Cal
namespace Go.Proofs.Ytbcghiagomkadaa.Cal
open Go
def evRes (tb : Nat → Option TI) (s : CS) : List ResultVar → Option (List AV)
  | [] => some []
  | .tmp t :: r => match evRes tb s r with
    | some l => some (lke s.env t :: l)
    | none => none
  | .cell a t :: r => match tb t with
    | some i => match lke s.env a with
      | .own k => match lkr s.rs k with
        | some (.box u) => match selv i u 0 with
          | some v => match evRes tb s r with
            | some l => some (v :: l)
            | none => none
          | none => none
        | _ => none
      | _ => none
    | none => none
def resV : List AV → AV
  | [v] => v
  | l => .tup (mkL l)
def zipE : Nat → List AV → List (Nat × AV)
  | _, [] => []
  | i, a :: t => (i, a) :: zipE (i + 1) t
def rget (tmps : Array Value) : ResultVar → Sem Value
  | .tmp t => pure (tmps.getD t undef)
  | .cell a t => do loadVar t (← asAddr (tmps.getD a undef))
theorem results_eq (fn : Func) (tmps : Array Value) : results fn tmps = (do let vs ← fn.results.mapM (rget tmps); pure (if h : vs.size = 1 then vs[0] else .tuple vs)) := rfl
section
variable {P : Program} {N : Nat} {tb : Nat → Option TI}
theorem results_list (htb : TabOK P tb) {K Z : Nat → Prop} {w : World} {ν : Nat → Value} {s : CS} {σ : St} {a : Act} (hg : Good K Z N w ν σ a) (hen : σ.env = lke s.env) (hrs : ∀ k B, lkr s.rs k = some B → B ≠ .dfr → σ.rs k = some B) : ∀ (rv : List ResultVar) (l : List AV), evRes tb s rv = some l →
    ∃ ys, (rv.mapM (rget a.tmps)).run P w = .ok ys w ∧ R Z w (mkL l) ν true ys ∧ men σ.mu (mkL l) = true ∧ ys.length = l.length := by
  intro rv
  induction rv with
  | nil => intro l h; simp only [evRes, Option.some.injEq] at h; subst h; exact ⟨[], rfl, rfl, rfl, rfl⟩
  | cons r rv ih =>
    intro l h
    cases r with
    | tmp t =>
      simp only [evRes] at h
      split at h
      · rename_i l' hl
        simp only [Option.some.injEq] at h
        subst h
        obtain ⟨ys, h1, h2, h3, h4⟩ := ih l' hl
        have he := hg.env t
        rw [hen] at he
        refine ⟨a.tmps.getD t undef :: ys, ?_, ⟨_, _, rfl, he.2, h2⟩, by simp only [mkL, men, h3, Bool.and_true]; exact he.1, by simp [h4]⟩
        rw [List.mapM_cons]
        simp only [rget, Sem.run_bind, Sem.run_pure, h1, Result.andThen_ok]
      · cases h
    | cell p t =>
      simp only [evRes] at h
      split at h
      · rename_i i ht
        split at h
        · rename_i k hk
          split at h
          · rename_i u hu
            split at h
            · rename_i v hv
              split at h
              · rename_i l' hl
                simp only [Option.some.injEq] at h
                subst h
                obtain ⟨ys, h1, h2, h3, h4⟩ := ih l' hl
                have he := hg.env p
                have hkk : σ.env p = .own k := by rw [hen]; exact hk
                rw [hkk] at he
                obtain ⟨b, cells, T, hx, hb, r, hmu⟩ := Zgx hg.rs (hrs k _ hu (by simp))
                obtain ⟨x, hx2, rx⟩ := Zed (P := P) (o := 0) (q := 0) (b := b) (htb t i ht) r (Zep hb) hv
                have hp : a.tmps.getD p undef = .pointer (some ⟨b, 0, none⟩) := by rw [one1 he.2, hx]
                have hl2 : (loadVar t ⟨b, 0, none⟩).run P w = .ok x w := by
                  simpa [Instr.loadAt, Instr.sureAddr, Sem.run_bind, Result.andThen] using hx2
                refine ⟨x :: ys, ?_, ⟨_, _, rfl, rx, h2⟩, by simp only [mkL, men, h3, Bool.and_true]; exact Zfm hmu hv, by simp [h4]⟩
                have hget : (rget a.tmps (.cell p t)).run P w = .ok x w := by
                  simp only [rget, Sem.run_bind, hp, asAddr, Sem.run_pure, Result.andThen_ok, hl2]
                rw [List.mapM_cons]
                simp only [Sem.run_bind, hget, Sem.run_pure, Result.andThen_ok, h1]
              · cases h
            · cases h
          · cases h
        · cases h
      · cases h
theorem results_ok (htb : TabOK P tb) {K Z : Nat → Prop} {w : World} {ν : Nat → Value} {s : CS} {σ : St} {a : Act} {fn : Func} {l : List AV} (hg : Good K Z N w ν σ a) (hen : σ.env = lke s.env) (hrs : ∀ k B, lkr s.rs k = some B → B ≠ .dfr → σ.rs k = some B) (h : evRes tb s fn.results.toList = some l) :
    ∃ y, (results fn a.tmps).run P w = .ok y w ∧ R Z w (resV l) ν true [y] ∧ men σ.mu (resV l) = true := by
  obtain ⟨ys, h1, h2, h3, h4⟩ := results_list htb hg hen hrs _ l h
  have hm : (fn.results.mapM (rget a.tmps)).run P w = .ok ys.toArray w := by
    rw [Array.mapM_eq_mapM_toList, map_eq_pure_bind, Sem.run_bind, h1]; rfl
  have hres : (results fn a.tmps).run P w = .ok (if h : ys.toArray.size = 1 then ys.toArray[0] else .tuple ys.toArray) w := by
    rw [results_eq, Sem.run_bind, hm]; rfl
  refine ⟨_, hres, ?_⟩
  cases l with
  | nil =>
    have : ys = [] := h2
    subst this
    exact ⟨⟨[], rfl, rfl⟩, rfl⟩
  | cons v l =>
    cases l with
    | nil =>
      obtain ⟨y, ys', rfl, r1, r2⟩ := h2
      have : ys' = [] := r2
      subst this
      simp only [mkL, men, Bool.and_true] at h3
      exact ⟨r1, h3⟩
    | cons v2 l =>
      have hn : ¬ ys.toArray.size = 1 := by simp [h4]
      rw [dif_neg hn]
      exact ⟨⟨ys, rfl, h2⟩, h3⟩
/-- Marks are collected one after the other. -/
theorem leaves_marks {F : Fence} {n : Nat} {fn : Func} {tmps : Array Value} {R : Ending → World → Prop} {u : FrameMode} (hu : u ≠ .run) : ∀ (B : List Nat) (w : World), (∀ b, b ∈ B → w.heap[b]? = some (.deferred (some []))) → B.Nodup →
    (∀ w', Ext (fun b => b ∉ B) w w' → w'.heap.size = w.heap.size → LeavesInM F n P fn tmps R [] u w') → LeavesInM F n P fn tmps R (B.map fun r => { target := .collected r, args := #[] }) u w
  | [], w, _, _, hq => hq w ⟨rfl, rfl, rfl, Nat.le_refl _, fun _ _ => rfl⟩ rfl
  | b :: B, w, hb, hn, hq => by
    rw [List.nodup_cons] at hn
    have hw1 : ∀ y, y ≠ b → (w.putObj b (.deferred none)).heap[y]? = w.heap[y]? := fun y hy => by
      simp [World.putObj, Array.getElem?_setIfInBounds, Ne.symm hy]
    have hw2 : (w.putObj b (.deferred none)).heap.size = w.heap.size := by simp [World.putObj]
    refine ⟨hu, .inl ⟨b, w.putObj b (.deferred none), rfl, run_takeDeferred (hb b List.mem_cons_self), ?_⟩⟩
    refine leaves_marks hu B _ (fun y hy => (hw1 y (fun e => hn.1 (e ▸ hy))).trans (hb y (List.mem_cons_of_mem _ hy))) hn.2 fun w' he hs => ?_
    refine hq w' ⟨he.os, he.tape, he.output, by omega, fun y hy => ?_⟩ (hs.trans hw2)
    simp only [List.mem_cons, not_or] at hy
    exact (he.block y hy.2).trans (hw1 y hy.1)
theorem marks_of {K Z : Nat → Prop} {w : World} {ν : Nat → Value} {μ : Nat → Bool} {rs : Rs} {Ft : Nat → Nat → Prop} (hF : ∀ k b, rs k = some b → μ k = true ∧ menB μ b ∧ sat Z w ν (ν k) (Ft k) b ∧ (∀ x, Ft k x → ¬ K x ∧ x < w.heap.size) ∧ ∀ k' b', k ≠ k' → rs k' = some b' → ∀ x, Ft k x → ¬ Ft k' x) :
    ∀ (ms : List Nat), (∀ k, k ∈ ms → rs k = some .dfr) → ms.Nodup → ∃ B : List Nat, ms.flatMap (fun k => markOf (ν k)) = B.map (fun r => ({ target := .collected r, args := #[] } : Deferred)) ∧ B.Nodup ∧ (∀ b, b ∈ B → w.heap[b]? = some (.deferred (some []))) ∧ ∀ b, b ∈ B ↔ ∃ k, k ∈ ms ∧ Ft k b
  | [], _, _ => ⟨[], rfl, List.nodup_nil, fun b hb => absurd hb List.not_mem_nil, fun b => ⟨fun hb => absurd hb List.not_mem_nil, fun ⟨k, hk, _⟩ => absurd hk List.not_mem_nil⟩⟩
  | k :: ms, hd, hn => by
    rw [List.nodup_cons] at hn
    obtain ⟨B, h1, h2, h3, h4⟩ := marks_of hF ms (fun j hj => hd j (List.mem_cons_of_mem _ hj)) hn.2
    obtain ⟨_, _, ⟨bs, hx, hb, hnd, hFF⟩, _, hdis⟩ := hF k .dfr (hd k List.mem_cons_self)
    refine ⟨bs ++ B, ?_, ?_, fun b hb2 => ?_, fun b => ?_⟩
    · rw [List.flatMap_cons, h1, List.map_append]
      rw [hx, markOf_V]
    · rw [List.nodup_append]
      refine ⟨hnd, h2, fun a ha b hb2 e => ?_⟩
      subst e
      obtain ⟨j, hj, hFj⟩ := (h4 a).1 hb2
      exact hdis j .dfr (fun e => hn.1 (e ▸ hj)) (hd j (List.mem_cons_of_mem _ hj)) a ((hFF a).2 ha) hFj
    · rcases List.mem_append.1 hb2 with h | h
      · exact hb b h
      · exact h3 b h
    · rw [List.mem_append, h4]
      constructor
      · rintro (h | ⟨j, hj, h⟩)
        · exact ⟨k, List.mem_cons_self, (hFF b).2 h⟩
        · exact ⟨j, List.mem_cons_of_mem _ hj, h⟩
      · rintro ⟨j, hj, h⟩
        rcases List.mem_cons.1 hj with rfl | hj
        · exact .inl ((hFF b).1 h)
        · exact .inr ⟨j, hj, h⟩
theorem leaves_ok {F : Fence} {n : Nat} {fn : Func} {R : Ending → World → Prop} {u : FrameMode} (hu : u ≠ .run) (ms : List Nat) (K Z : Nat → Prop) (ν : Nat → Value) (w : World) (μ : Nat → Bool) (env : Env) (rs : Rs) (a : Act) (hg : Good K Z N w ν ⟨μ, env, rs, ms⟩ a) (hdf : ∀ k, k ∈ ms → rs k = some .dfr) (hnd : ms.Nodup)
    (hq : ∀ w' rs', Step K Z w Z w' → Good K Z N w' ν ⟨μ, env, rs', []⟩ { a with defers := [] } → (∀ k, k ∉ ms → rs' k = rs k) → LeavesInM F n P fn a.tmps R [] u w') : LeavesInM F n P fn a.tmps R a.defers u w := by
  obtain ⟨Ft, hF⟩ := id hg.rs
  obtain ⟨B, h1, h2, h3, h4⟩ := marks_of hF ms hdf hnd
  have hd : a.defers = ms.flatMap (fun k => markOf (ν k)) := hg.ds
  rw [hd, h1]
  refine leaves_marks hu B w h3 h2 fun w' he hs => ?_
  have hBK : ∀ b, b ∈ B → ¬ K b := fun b hb => by
    obtain ⟨k, hk, hFk⟩ := (h4 b).1 hb
    exact ((hF k .dfr (hdf k hk)).2.2.2.1 b hFk).1
  have hK : ∀ y, K y → w'.heap[y]? = w.heap[y]? := fun y hy => he.block y fun hb => hBK y hb hy
  have hstep : Step K Z w Z w' := ⟨⟨he.os, he.tape, he.output, he.size, hK⟩, fun _ h => h, fun _ h => .inl h⟩
  classical
  refine hq w' (fun k => if k ∈ ms then none else rs k) hstep ?_ fun k hk => if_neg hk
  refine ⟨hg.size, hg.one, fun s => ⟨(hg.env s).1, Zbk (fun _ h => h) (fun y hy => hK y (hg.zk y hy)) (hg.env s).2⟩, ⟨Ft, fun k b hk => ?_⟩, hg.zk, fun y hy => by rw [hs]; exact hg.kl y hy, rfl, fun k hk => by cases hk⟩
  by_cases hkm : k ∈ ms
  · simp only [if_pos hkm] at hk; cases hk
  simp only [if_neg hkm] at hk
  obtain ⟨g1, g2, g3, g4, g5⟩ := hF k b hk
  refine ⟨g1, g2, Zbo (fun _ h => h) (fun y hy => hK y (hg.zk y hy)) (fun y hy => he.block y fun hb => ?_) g3, fun y hy => ⟨(g4 y hy).1, by rw [hs]; exact (g4 y hy).2⟩, fun k' b' hne hk' => ?_⟩
  · obtain ⟨j, hj, hFj⟩ := (h4 y).1 hb
    exact g5 j .dfr (fun e => hkm (e ▸ hj)) (hdf j hj) y hy hFj
  · by_cases hkm' : k' ∈ ms
    · simp only [if_pos hkm'] at hk'; cases hk'
    · simp only [if_neg hkm'] at hk'
      exact g5 k' b' hne hk'
theorem Zgo {P : Program} {f : Nat} {vals : Array Value} {w : World} {R R' : Ending → World → Prop} (h : Calls P f vals w R) (hr : ∀ e w', R e w' → R' e w') : Calls P f vals w R' :=
  CallsIn.calls (F := FF none) (n := 0) (CallsIn.mono (Zcp h) hr) (fun k d hd => by cases hd)
/-- What a function's body must come to. -/
def exitQ (tb : Nat → Option TI) (fn : Func) (κ : Nat) (Q : CS → AV → Prop) : Exit → St → Prop
  | .normal, s | .ret, s => ∃ (cs : CS) (l : List AV), s = cs.st ∧ evRes tb cs fn.results.toList = some l ∧ (∀ k, k ∈ cs.ms → lkr cs.rs k = some .dfr) ∧ cs.ms.Nodup ∧ κ ≤ cs.m ∧ Q cs (resV l)
  | _, _ => False
/-- The same of a body that may panic. -/
def exitQP (tb : Nat → Option TI) (fn : Func) (κ : Nat) (E : List PanicEntry → Prop) (Q : CS → AV → Prop) : Exit → St → Prop
  | .normal, s | .ret, s => ∃ (cs : CS) (l : List AV), s = cs.st ∧ evRes tb cs fn.results.toList = some l ∧ (∀ k, k ∈ cs.ms → lkr cs.rs k = some .dfr) ∧ cs.ms.Nodup ∧ κ ≤ cs.m ∧ Q cs (resV l)
  | .panic c, s => E c ∧ ∃ cs : CS, s = cs.st ∧ (∀ k, k ∈ cs.ms → lkr cs.rs k = some .dfr) ∧ cs.ms.Nodup
  | _, _ => False
/-- The resources that a state lists, without the marks. -/
def noDfr (l : List (Nat × Option Blk)) (rs : Rs) : Prop := ∀ k B, lkr l k = some B → B ≠ .dfr → rs k = some B
theorem fcallp_of (htb : TabOK P tb) {f κ : Nat} {fn : Func} {c : Code} {args : List AV} {rin : List (Nat × Option Blk)} {E : List PanicEntry → Prop} {Q : AV → (Nat → Bool) → Rs → Prop} (hf : P.funcs[f]? = some fn) (hb : fn.body = some c) (hN : args.length ≤ fn.ntmps)
    (h : awp P none fn.ntmps κ c (CS.st ⟨κ, zipE 0 args, rin, []⟩) (exitQP tb fn κ E fun cs v => ∀ rs, noDfr cs.rs rs → Q v (ltK cs.m) rs)) : FCallP P f κ args (lkr rin) E Q := by
  intro K Z ν w vals h1 hr hm hrs hzk hkl
  have hlen : vals.size = args.length := by
    have : ∀ (args : List AV) (cs : List Value), R Z w (mkL args) ν true cs → cs.length = args.length := by
      intro args
      induction args with
      | nil => intro cs h; rw [show cs = [] from h]; rfl
      | cons a t ih => intro cs h; obtain ⟨v, vs, rfl, _, r2⟩ := h; simp [ih vs r2]
    simpa using this args _ hr
  have hnth : ∀ (args : List AV) (i s : Nat) (cs : List Value), R Z w (mkL args) ν true cs → men (ltK κ) (mkL args) = true → men (ltK κ) (lke (zipE i args) s) = true ∧ ((i ≤ s ∧ s < i + args.length → R Z w (lke (zipE i args) s) ν true [cs.getD (s - i) undef]) ∧ (¬ (i ≤ s ∧ s < i + args.length) → lke (zipE i args) s = .any)) := by
    intro args
    induction args with
    | nil => intro i s cs _ _; exact ⟨rfl, fun h => by simp at h; omega, fun _ => rfl⟩
    | cons a t ih =>
      intro i s cs hr hm
      obtain ⟨v, vs, rfl, r1, r2⟩ := hr
      simp only [mkL, men, Bool.and_eq_true] at hm
      obtain ⟨g1, g2, g3⟩ := ih (i + 1) s vs r2 hm.2
      by_cases hs : s = i
      · subst hs
        simp only [zipE, lke, Nat.beq_refl]
        exact ⟨hm.1, fun _ => by rw [Nat.sub_self]; exact r1, fun hn => absurd ⟨Nat.le_refl s, by simp⟩ hn⟩
      · simp only [zipE, lke, beqN hs]
        refine ⟨g1, fun hh => ?_, fun hn => g3 fun hh => hn ⟨by omega, by simp only [List.length_cons]; omega⟩⟩
        have := g2 ⟨by omega, by simp only [List.length_cons] at hh; omega⟩
        rw [show s - i = (s - (i + 1)) + 1 from by omega]
        exact this
  have hgood : Good K Z fn.ntmps w ν (CS.st ⟨κ, zipE 0 args, rin, []⟩) { tmps := vals ++ Array.replicate (fn.ntmps - vals.size) undef, defers := [] } := by
    refine ⟨by simp; omega, h1, fun s => ?_, hrs, hzk, hkl, rfl, fun k hk => by cases hk⟩
    obtain ⟨g1, g2, g3⟩ := hnth args 0 s vals.toList hr hm
    refine ⟨g1, ?_⟩
    show R Z w (lke (zipE 0 args) s) ν true _
    by_cases hs : s < args.length
    · have := g2 ⟨by omega, by omega⟩
      have e : (vals ++ Array.replicate (fn.ntmps - vals.size) undef).getD s undef = vals.toList.getD (s - 0) undef := by
        simp [Array.getD_eq_getD_getElem?, List.getD_eq_getElem?_getD, Array.getElem?_append_left (show s < vals.size by omega)]
      show R Z w _ ν true [(vals ++ Array.replicate (fn.ntmps - vals.size) undef).getD s undef]
      rw [e]; exact this
    · rw [g3 (by omega)]; exact ⟨_, rfl⟩
  have := callsIn_of_wp_marks (F := FF none) (n := 0) (R := fun e w' => (∃ (y : Value) (Z' : Nat → Prop) (ν' : Nat → Value) (v : AV) (μ' : Nat → Bool) (rs' : Rs), e = .returned y ∧ Step K Z w Z' w' ∧ (∀ k, (ν' k).oneCell' = true) ∧ (∀ k, k < κ → ν' k = ν k) ∧ (∀ k, k < κ → μ' k = true) ∧
      R Z' w' v ν' true [y] ∧ men μ' v = true ∧ GoodRs (un K Z') Z' w' ν' μ' rs' ∧ (∀ b, Z' b → b < w'.heap.size) ∧ Q v μ' rs') ∨ ∃ c, E c ∧ e = .panicked c ∧ Step K Z w Z w') (args := vals) (w := w) hf hb trivial (wpIn_mono (h 0 K Z ν w _ hgood) ?_)
  · exact CallsIn.calls this (fun k d hd => by cases hd)
  · rintro e a' w' ⟨Z', ν', σ', hst, hν, hg, hq⟩
    have key : ∀ (cs : CS) (l : List AV), σ' = cs.st → evRes tb cs fn.results.toList = some l → (∀ k, k ∈ cs.ms → lkr cs.rs k = some .dfr) → cs.ms.Nodup → κ ≤ cs.m → (∀ rs, noDfr cs.rs rs → Q (resV l) (ltK cs.m) rs) → LeavesInM (FF none) 0 P fn a'.tmps (fun e w' => (∃ (y : Value) (Z' : Nat → Prop) (ν' : Nat → Value) (v : AV) (μ' : Nat → Bool) (rs' : Rs), e = .returned y ∧ Step K Z w Z' w' ∧ (∀ k, (ν' k).oneCell' = true) ∧ (∀ k, k < κ → ν' k = ν k) ∧ (∀ k, k < κ → μ' k = true) ∧
        R Z' w' v ν' true [y] ∧ men μ' v = true ∧ GoodRs (un K Z') Z' w' ν' μ' rs' ∧ (∀ b, Z' b → b < w'.heap.size) ∧ Q v μ' rs') ∨ ∃ c, E c ∧ e = .panicked c ∧ Step K Z w Z w') a'.defers .returning w' := by
      intro cs l e1 e2 e3 e4 e5 e6
      subst e1
      refine leaves_ok (by simp) cs.ms (un K Z') Z' ν' w' _ _ _ a' hg e3 e4 fun w2 rs2 hs2 hg2 hr2 => ?_
      have hnd : ∀ k B, lkr cs.rs k = some B → B ≠ .dfr → rs2 k = some B := fun k B hk hB => by
        rw [hr2 k (fun hm => by rw [e3 k hm] at hk; cases hk; exact hB rfl)]; exact hk
      -- the values, in the last world
      obtain ⟨y, hy, hry, hmy⟩ := results_ok htb hg2 rfl hnd e2
      show ∃ v, (results fn a'.tmps).run P w2 = .ok v w2 ∧ _
      exact ⟨y, hy, .inl ⟨y, Z', ν', resV l, ltK cs.m, rs2, rfl, hst.trans hs2, hg2.one, hν, fun k hk => by show Nat.blt k cs.m = true; rw [Nat.blt_eq]; omega, hry, hmy, hg2.rs, fun b hb => hg2.kl b (hg2.zk b hb), e6 rs2 hnd⟩⟩
    cases e with
    | normal => obtain ⟨cs, l, e1, e2, e3, e4, e5, e6⟩ := hq; exact key cs l e1 e2 e3 e4 e5 e6
    | ret => obtain ⟨cs, l, e1, e2, e3, e4, e5, e6⟩ := hq; exact key cs l e1 e2 e3 e4 e5 e6
    | panic c =>
      obtain ⟨hE, cs, rfl, e3, e4⟩ := hq
      refine leaves_ok (by simp) cs.ms (un K Z') Z' ν' w' _ _ _ a' hg e3 e4 fun w2 rs2 hs2 hg2 hr2 => ?_
      refine .inr ⟨c, hE, rfl, ?_⟩
      have hs := hst.trans hs2
      exact ⟨hs.ext, fun _ h => h, fun _ h => .inl h⟩
    | _ => exact hq.elim
theorem fcall_of (htb : TabOK P tb) {f κ : Nat} {fn : Func} {c : Code} {args : List AV} {rin : List (Nat × Option Blk)} {Q : AV → (Nat → Bool) → Rs → Prop} (hf : P.funcs[f]? = some fn) (hb : fn.body = some c) (hN : args.length ≤ fn.ntmps)
    (h : awp P none fn.ntmps κ c (CS.st ⟨κ, zipE 0 args, rin, []⟩) (exitQ tb fn κ fun cs v => ∀ rs, noDfr cs.rs rs → Q v (ltK cs.m) rs)) : FCall P f κ args (lkr rin) Q := by
  intro K Z ν w vals h1 hr hm hrs hzk hkl
  refine Zgo (fcallp_of (E := fun _ => False) htb hf hb hN (Zeq h fun e s hq => ?_) K Z ν w vals h1 hr hm hrs hzk hkl) fun e w' hq => hq.elim id fun ⟨_, hc, _⟩ => hc.elim
  cases e <;> first | exact hq | exact hq.elim
end
end Go.Proofs.Ytbcghiagomkadaa.Cal
