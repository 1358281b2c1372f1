/- A region as a whole, as a function of the state. -/
import Derived.Test.YtgminhedbeblpaaCal18
import Derived.Test.YtgminhedbeblpaaCalC
import Derived.Test.YtgminhedbeblpaaCalM
set_option linter.unusedVariables false
set_option linter.unusedSimpArgs false
namespace Go.Proofs.Ytgminhedbeblpaa.Cal
open Go

def evCall (sp : Nat → Option Spec) (get : Operand → AV) (l : List (Nat × Option Blk)) (kn : Nat) (c : Call) : Option EvR :=
  match c.callee with
  | .value x => match get x with
    | .fn f caps => if properL caps then (match sp f with
      | some S => match viewA l (appL (ofL get c.args.toList) caps) with
        | some (a', rd) => match S (lsOf a') with
          | some r => ofSR kn rd r
          | none => none
        | none => none
      | none => none) else none
    | _ => none
  | _ => none

def isValCall : Op → Bool
  | .call c => match c.callee with | .value _ => true | _ => false
  | _ => false

def ev1 (tb : Nat → Option TI) (sp : Nat → Option Spec) (get : Operand → AV) (l : List (Nat × Option Blk)) (kn : Nat) (alt : Bool) (op : Op) : Option EvR :=
  match op with
  | .call c => match c.callee with
    | .value _ => evCall sp get l kn c
    | .builtin .copy => evCopy tb get l c
    | .builtin .append => (match alt with | true => evFz kn (evx tb get l kn false (.call c)) | false => evx tb get l kn false (.call c))
    | _ => evx tb get l kn alt (.call c)
  | .defer _ => none
  | .slice t x lo hi none => (match get x with | .own k => evCut tb get l kn t k lo hi | _ => evx tb get l kn alt (.slice t x lo hi none))
  | .slice t x lo hi (some mx) => evCap tb get t x lo hi mx
  | .makeMap t q => evMap tb get l kn (.makeMap t q)
  | .lookup t m x ok => evMap tb get l kn (.lookup t m x ok)
  | .mapUpdate t m x y => evMap tb get l kn (.mapUpdate t m x y)
  | .makeSlice t a c => (match alt && isIntS tb t with | true => evFz kn (evx tb get l kn false (.makeSlice t a c)) | false => evx tb get l kn alt (.makeSlice t a c))
  | op => evx tb get l kn alt op

def guardOf (ops : List Oper) (get : Operand → AV) (o : Oper) : Option (Option Bool) :=
  match o.guard with
  | none => some none
  | some (j, want) => match ops[j]? with
    | some oj => match oj.dst with
      | some d => match get (.tmp d) with
        | .bool b => some (some (bif want then b else !b))
        | .whn g u => match u with
          | .bool b => some (some (g && bif want then b else !b))
          | _ => none
        | _ => none
      | none => none
    | none => none

def gds : List AV → Prop
  | [] => True
  | u :: t => gd u ∧ gds t

def whnR (g : Bool) (gs : Prop) : Option EvR → Option EvR
  | some r => match r.wr, r.kn with
    | [], none => some ⟨.whn g r.val, r.rd, [], none, g = true → gs ∧ r.ob⟩
    | _, _ => none
  | none => none

def evo (tb : Nat → Option TI) (sp : Nat → Option Spec) (ops : List Oper) (get : Operand → AV) (l : List (Nat × Option Blk)) (kn : Nat) (alt : Bool) (o : Oper) : Option EvR :=
  match guardOf ops get o with
  | none => none
  | some none => ev1 tb sp get l kn alt o.op
  | some (some g) => match o.op with
    | .pick c a b => whnR g True (evPick (get c) (get a) (get b))
    | op => whnR g (gds (op.operands.toList.map get)) (ev1 tb sp (fun x => strip (get x)) l kn alt op)

def tmpsOf : List Operand → List Nat
  | [] => []
  | x :: t => match x with | .tmp d => d :: tmpsOf t | _ => tmpsOf t
def guardTmp (ops : List Oper) (o : Oper) : List Nat :=
  match o.guard with
  | none => []
  | some (j, _) => match ops[j]? with
    | some oj => oj.dst.toList
    | none => []

def lke : List (Nat × AV) → Nat → AV
  | [], _ => .any
  | (k, v) :: t, s => match Nat.beq s k with | true => v | false => lke t s

def del (k : Nat) : List (Nat × Option Blk) → List (Nat × Option Blk)
  | [] => []
  | (k', b) :: t => match Nat.beq k k' with | true => del k t | false => (k', b) :: del k t
def set1 (k : Nat) (b : Blk) : List (Nat × Option Blk) → List (Nat × Option Blk)
  | [] => [(k, some b)]
  | (k', b') :: t => match Nat.beq k k' with | true => (k, some b) :: t | false => (k', b') :: set1 k b t
def setW : List (Nat × Option Blk) → List (Nat × Option Blk) → List (Nat × Option Blk)
  | [], l => l
  | (k, some b) :: w, l => set1 k b (setW w l)
  | (k, none) :: w, l => del k (setW w l)

structure ER where
  its : List Item
  env : List (Nat × AV)
  l : List (Nat × Option Blk)
  ob : Prop

def putE (o : Option Nat) (v : AV) (e : List (Nat × AV)) : List (Nat × AV) := match o with | some d => (d, v) :: e | none => e

def evOps (tb : Nat → Option TI) (sp : Nat → Option Spec) (ch : Nat → Bool) (m : Nat) (all : List Oper) : List Oper → Nat → List (Nat × AV) → List (Nat × Option Blk) → ER
  | [], _, e, l => ⟨[], e, l, True⟩
  | o :: t, i, e, l => match evo tb sp all (opv (lke e)) l (m + i) (ch i) o with
    | none => ⟨[], e, l, False⟩
    | some r =>
      let q := evOps tb sp ch m all t (i + 1) (putE o.dst r.val e) (setW r.wr l)
      ⟨⟨o.dst, (tmpsOf o.op.operands.toList ++ guardTmp all o).map (fun t => (t, lke e t)), r.val, r.rd, r.wr, r.kn⟩ :: q.its, q.env, q.l, r.ob ∧ q.ob⟩

structure CS where
  m : Nat
  env : List (Nat × AV)
  rs : List (Nat × Option Blk)
  ms : List Nat
def CS.st (s : CS) : St := ⟨ltK s.m, lke s.env, lkr s.rs, s.ms⟩

theorem beqN {a b : Nat} (h : a ≠ b) : Nat.beq a b = false := by cases hb : Nat.beq a b with | false => rfl | true => exact absurd (Nat.eq_of_beq_eq_true hb) h

theorem putE_lke {o : Option Nat} {v : AV} {e : List (Nat × AV)} : lke (putE o v e) = putO (lke e) o v := by
  cases o with
  | none => rfl
  | some d => rfl

theorem lkr_del {k : Nat} {l : List (Nat × Option Blk)} : lkr (del k l) = fun j => if j = k then none else lkr l j := by
  funext j
  induction l with
  | nil => simp [del, lkr, lko]
  | cons p t ih =>
    obtain ⟨k', b⟩ := p
    simp only [del]
    by_cases hk : k = k'
    · subst hk
      rw [Nat.beq_refl]
      dsimp only
      rw [ih]
      by_cases hj : j = k
      · simp [hj]
      · simp only [if_neg hj, lkr, lko, beqN hj]
    · rw [beqN hk]
      dsimp only
      simp only [lkr, lko] at ih ⊢
      by_cases hj : j = k'
      · subst hj; rw [Nat.beq_refl, if_neg (Ne.symm hk)]
      · rw [beqN hj]; exact ih
theorem lkr_set1 {k : Nat} {b : Blk} {l : List (Nat × Option Blk)} : lkr (set1 k b l) = fun j => if j = k then some b else lkr l j := by
  funext j
  induction l with
  | nil =>
    by_cases hj : j = k
    · subst hj; simp [set1, lkr, lko, Nat.beq_refl]
    · simp [set1, lkr, lko, beqN hj, hj]
  | cons p t ih =>
    obtain ⟨k', b'⟩ := p
    simp only [set1]
    by_cases hk : k = k'
    · subst hk
      rw [Nat.beq_refl]
      by_cases hj : j = k
      · subst hj; simp [lkr, lko, Nat.beq_refl]
      · simp only [lkr, lko, beqN hj, if_neg hj]
    · rw [beqN hk]
      dsimp only
      simp only [lkr, lko] at ih ⊢
      by_cases hj : j = k'
      · subst hj; rw [Nat.beq_refl, if_neg (Ne.symm hk)]
      · rw [beqN hj]; exact ih

theorem lkr_setW : ∀ {wr l : List (Nat × Option Blk)}, lkr (setW wr l) = updL (lkr l) wr
  | [], l => rfl
  | (k, some b) :: w, l => by
    simp only [setW, lkr_set1, lkr_setW (wr := w)]
    funext j
    simp only [updL, lko]
    by_cases hj : j = k
    · subst hj; simp [Nat.beq_refl]
    · simp only [beqN hj, if_neg hj]
  | (k, none) :: w, l => by
    simp only [setW, lkr_del, lkr_setW (wr := w)]
    funext j
    simp only [updL, lko]
    by_cases hj : j = k
    · subst hj; simp [Nat.beq_refl]
    · simp only [beqN hj, if_neg hj]

theorem mem_tmps {xs : List Operand} {t : Nat} (h : Operand.tmp t ∈ xs) : t ∈ tmpsOf xs := by
  induction xs with
  | nil => cases h
  | cons x xs ih =>
    rcases List.mem_cons.1 h with rfl | h
    · simp [tmpsOf]
    · have := ih h
      cases x <;> simp [tmpsOf, this]

def SpOK (P : Program) (sp : Nat → Option Spec) : Prop := ∀ f S, sp f = some S → FSpec P f S

section
variable {P : Program} {ro : Option Nat} {N κ : Nat} {tb : Nat → Option TI} {sp : Nat → Option Spec}

structure DoOK (P : Program) (ro : Option Nat) (o : Oper) (get : Operand → AV) (l : List (Nat × Option Blk)) (kn : Nat) (r : EvR) : Prop where
  does : Does P ro o get r.val r.rd r.wr r.kn
  rd : RdIn l r.rd
  kn : r.kn = none ∨ r.kn = some kn

theorem ofSR_same {kn : Nat} {rd : List (Nat × Blk)} {r : SR} {r' : EvR} (h : ofSR kn rd r = some r') : r'.rd = rd ∧ (r'.kn = none ∨ r'.kn = some kn) ∧ (r'.ob → r.ob) := by
  unfold ofSR at h
  split at h <;> split at h <;> first | (cases h; done) | (simp only [Option.some.injEq] at h; subst h; exact ⟨rfl, by simp, id⟩)

theorem ev1_ok (htb : TabOK P tb) (hmz : ∀ t i, tb t = some i → men noK i.zero = true) (hsp : SpOK P sp) (o : Oper) {get : Operand → AV} {l : List (Nat × Option Blk)} {kn : Nat} {alt : Bool} {r : EvR} (h : ev1 tb sp get l kn alt o.op = some r) (hob : r.ob) :
    DoOK P ro o get l kn r ∧ ∀ c, o.op ≠ .defer c := by
  have plain : (∀ c, o.op ≠ .defer c) → evx tb get l kn alt o.op = some r → DoOK P ro o get l kn r ∧ ∀ c, o.op ≠ .defer c := fun hnd h => by
    obtain ⟨h1, h2, h3⟩ := evx_ok htb hmz o h hob
    exact ⟨⟨does_sem hnd h1, h2, h3⟩, hnd⟩
  unfold ev1 at h
  split at h
  · rename_i c ho
    split at h
    · rename_i x hx
      unfold evCall at h
      rw [hx] at h
      dsimp only at h
      split at h
      · rename_i f caps hf
        split at h
        · rename_i hpc
          split at h
          · rename_i S hS
            split at h
            · rename_i a' rd hv
              split at h
              · rename_i r0 hr
                obtain ⟨e1, e2, e3⟩ := ofSR_same h
                have hceq : o.op = .call ⟨.value x, c.args.toList.toArray, c.argTypes⟩ := by
                  rw [ho]
                  obtain ⟨cal, args, ats⟩ := c
                  simp only at hx
                  subst hx
                  rfl
                refine ⟨⟨?_, by rw [e1]; exact view_rd hv, e2⟩, by rw [ho]; intro c' hc; cases hc⟩
                rw [e1]
                exact does_call hceq hf hpc hv (hsp f S hS) hr h (e3 hob)
              · cases h
            · cases h
          · cases h
        · cases h
      · cases h
    · rename_i hcp
      obtain ⟨h1, h2, h3⟩ := evCopy_ok (kn := kn) htb ho hcp h hob
      have hnd : ∀ c, o.op ≠ .defer c := by rw [ho]; intro c' hc; cases hc
      exact ⟨⟨does_sem hnd h1, h2, h3⟩, hnd⟩
    · have hnd : ∀ c, o.op ≠ .defer c := by rw [ho]; intro c' hc; cases hc
      have plain' : ∀ {r}, evx tb get l kn false o.op = some r → r.ob → EvOK P o get l kn r := fun h hob => evx_ok htb hmz o h hob
      split at h
      · obtain ⟨h1, h2, h3⟩ := evFz_ok h hob (fun r' he hob' => plain' (by rw [ho]; exact he) hob')
        exact ⟨⟨does_sem hnd h1, h2, h3⟩, hnd⟩
      · obtain ⟨h1, h2, h3⟩ := plain' (by rw [ho]; exact h) hob
        exact ⟨⟨does_sem hnd h1, h2, h3⟩, hnd⟩
    · exact plain (by rw [ho]; intro c' hc; cases hc) (by rw [ho]; exact h)
  · cases h
  · rename_i t x lo hi ho
    have hnd : ∀ c, o.op ≠ .defer c := by rw [ho]; intro c' hc; cases hc
    split at h
    · rename_i k hx
      obtain ⟨h1, h2, h3⟩ := evCut_ok htb ho hx h hob
      exact ⟨⟨does_sem hnd h1, h2, h3⟩, hnd⟩
    · exact plain hnd (by rw [ho]; exact h)
  · rename_i t x lo hi mx ho
    have hnd : ∀ c, o.op ≠ .defer c := by rw [ho]; intro c' hc; cases hc
    obtain ⟨h1, h2, h3⟩ := evCap_ok (l := l) (kn := kn) htb ho h hob
    exact ⟨⟨does_sem hnd h1, h2, h3⟩, hnd⟩
  · rename_i t q ho
    have hnd : ∀ c, o.op ≠ .defer c := by rw [ho]; intro c' hc; cases hc
    obtain ⟨h1, h2, h3⟩ := evMap_ok (l := l) (kn := kn) htb (o := o) (by rw [ho]; exact h)
    exact ⟨⟨does_sem hnd h1, h2, h3⟩, hnd⟩
  · rename_i t m x ok ho
    have hnd : ∀ c, o.op ≠ .defer c := by rw [ho]; intro c' hc; cases hc
    obtain ⟨h1, h2, h3⟩ := evMap_ok (l := l) (kn := kn) htb (o := o) (by rw [ho]; exact h)
    exact ⟨⟨does_sem hnd h1, h2, h3⟩, hnd⟩
  · rename_i t m x y ho
    have hnd : ∀ c, o.op ≠ .defer c := by rw [ho]; intro c' hc; cases hc
    obtain ⟨h1, h2, h3⟩ := evMap_ok (l := l) (kn := kn) htb (o := o) (by rw [ho]; exact h)
    exact ⟨⟨does_sem hnd h1, h2, h3⟩, hnd⟩
  · rename_i t a c ho
    have hnd : ∀ c, o.op ≠ .defer c := by rw [ho]; intro c' hc; cases hc
    split at h
    · obtain ⟨h1, h2, h3⟩ := evFz_ok h hob (fun r' he hob' => evx_ok htb hmz o (by rw [ho]; exact he) hob')
      exact ⟨⟨does_sem hnd h1, h2, h3⟩, hnd⟩
    · exact plain hnd (by rw [ho]; exact h)
  · rename_i h1 h2 h3 h4 h5 h6 h7 h8
    exact plain (fun c hc => h2 c hc) h

theorem evStore_rd {i : TI} {l : List (Nat × Option Blk)} {ua ux : AV} {r : EvR} (h : evStore i l ua ux = some r) : RdIn l r.rd := by
  unfold evStore stBox at h
  (repeat' split at h) <;> first
    | (cases h; done)
    | (simp only [Option.some.injEq] at h; subst h; first | exact rdin_one (by assumption) | exact rdin_cons (by assumption) (rdin_one (by assumption)))
theorem evApp_rd {l : List (Nat × Option Blk)} {kn : Nat} {ux uy : AV} {r : EvR} (h : evApp l kn ux uy = some r) : RdIn l r.rd := by
  have hI : ∀ {ys rd}, srcI l uy = some (ys, rd) → RdIn l rd := fun h => (srcI_ok (rd' := _) h (fun _ hp => hp)).2
  have hB : ∀ {ys rd}, srcB l uy = some (ys, rd) → RdIn l rd := fun h => (srcB_ok (rd' := _) h (fun _ hp => hp)).2
  have hR : ∀ {ys rd}, srcR l uy = some (ys, rd) → RdIn l rd := fun h => (srcR_ok (rd' := _) h (fun _ hp => hp)).2
  unfold evApp at h
  (repeat' split at h) <;> first
    | (cases h; done)
    | (simp only [Option.some.injEq] at h; subst h; first
        | exact rdin_cons (by assumption) (hI (by assumption))
        | exact rdin_cons (by assumption) (hB (by assumption))
        | exact rdin_cons (by assumption) (hR (by assumption))
        | exact hI (by assumption)
        | exact hB (by assumption)
        | exact hR (by assumption))
theorem evAppS_rd {sz : Nat} {l : List (Nat × Option Blk)} {kn : Nat} {ux uy : AV} {r : EvR} (h : evAppS sz l kn ux uy = some r) : RdIn l r.rd := by
  unfold evAppS at h
  (repeat' split at h) <;> first
    | (cases h; done)
    | (simp only [Option.some.injEq] at h; subst h; first | exact rdin_nil | exact rdin_one (by assumption))
theorem ofP_rd {l : List (Nat × Option Blk)} {e : Evp} {r : EvR} (h : ofP e = some r) (hrd : ∀ v rd ob, e = some (v, rd, ob) → RdIn l rd) : RdIn l r.rd := by
  unfold ofP at h
  split at h
  · simp only [Option.some.injEq] at h; subst h; exact hrd _ _ _ rfl
  · cases h
theorem evx_rd {get : Operand → AV} {l : List (Nat × Option Blk)} {kn : Nat} {alt : Bool} {op : Op} {r : EvR} (h : evx tb get l kn alt op = some r) : RdIn l r.rd := by
  unfold evx evBuildS evPick evTake at h
  (repeat' split at h) <;> first
    | (cases h; done)
    | exact evStore_rd h
    | exact evApp_rd h
    | exact evAppS_rd h
    | exact ofP_rd h (fun _ _ _ => evLoad_rd)
    | exact ofP_rd h (fun _ _ _ => evp_rd)
    | (simp only [Option.some.injEq] at h; subst h; first | exact rdin_nil | exact rdin_one (by assumption))
    | (rename_i hh; (repeat' split at hh) <;> first | (cases hh; done) | (simp only [Option.some.injEq] at h hh; subst h; subst hh; exact rdin_one (by assumption)))
theorem ev1_rd {get : Operand → AV} {l : List (Nat × Option Blk)} {kn : Nat} {alt : Bool} {op : Op} {r : EvR} (h : ev1 tb sp get l kn alt op = some r) : RdIn l r.rd := by
  unfold ev1 evCall at h
  (repeat' split at h) <;> first
    | (cases h; done)
    | exact evx_rd h
    | exact evCopy_rd h
    | exact evCut_rd h
    | exact evCap_rd h
    | exact evMap_rd h
    | exact evFz_rd h (fun r' he => evx_rd he)
    | (rw [(ofSR_same h).1]; exact view_rd (by assumption))

theorem gds_mem {l : List AV} (h : gds l) : ∀ u, u ∈ l → gd u := by
  induction l with
  | nil => intro u hu; cases hu
  | cons a t ih =>
    intro u hu
    rcases List.mem_cons.1 hu with rfl | hu
    · exact h.1
    · exact ih h.2 u hu

theorem opv_same {e e' : Env} {x : Operand} (h : ∀ t, x = .tmp t → e t = e' t) : opv e x = opv e' x := by
  cases x with
  | tmp t => exact h t rfl
  | _ => rfl

/-- An operation of a region, by the table. -/
theorem evo_ok (htb : TabOK P tb) (hmz : ∀ t i, tb t = some i → men noK i.zero = true) (hsp : SpOK P sp) (ops : List Oper) (o : Oper) {e : Env} {l : List (Nat × Option Blk)} {kn : Nat} {alt : Bool} {r : EvR} (h : evo tb sp ops (opv e) l kn alt o = some r) (hob : r.ob) :
    OpRun P ro N ops.toArray o ⟨o.dst, (tmpsOf o.op.operands.toList ++ guardTmp ops o).map (fun t => (t, e t)), r.val, r.rd, r.wr, r.kn⟩ ∧ RdIn l r.rd ∧ (r.kn = none ∨ r.kn = some kn) := by
  have hin : ∀ (σ : St) {it : Item} {ins : List (Nat × AV)}, Fits N it σ → it.ins = (tmpsOf o.op.operands.toList ++ guardTmp ops o).map (fun t => (t, e t)) → (∀ x, x ∈ o.op.operands → opv σ.env x = opv e x) ∧ ∀ d, d ∈ guardTmp ops o → σ.env d = e d := by
    intro σ it ins hf hins
    have : ∀ t, t ∈ tmpsOf o.op.operands.toList ++ guardTmp ops o → σ.env t = e t := fun t ht => hf.ins (t, e t) (by rw [hins]; exact List.mem_map.2 ⟨t, ht, rfl⟩)
    exact ⟨fun x hx => opv_same fun t ht => this t (List.mem_append_left _ (mem_tmps (by subst ht; simpa using hx))), fun d hd => this d (List.mem_append_right _ hd)⟩
  unfold evo at h
  split at h
  · cases h
  · rename_i hgu
    have hgn : o.guard = none := by
      unfold guardOf at hgu
      cases hg : o.guard with
      | none => rfl
      | some p =>
        rw [hg] at hgu
        dsimp only at hgu
        (repeat' split at hgu) <;> cases hgu
    obtain ⟨⟨hd, hrd, hk⟩, hnd⟩ := ev1_ok (ro := ro) htb hmz hsp o h hob
    refine ⟨?_, hrd, hk⟩
    intro n K Z ν w a σ hgood hf next Q hnext
    simp only [Region.wanted, hgn, if_true]
    refine ⟨fun _ _ => trivial, ?_⟩
    obtain ⟨hx, _⟩ := hin σ (ins := []) hf rfl
    refine hd n K Z ν w a σ.mu σ.rs hgood.one hgood.rs hgood.zk hgood.kl (fun x hxm => ?_) hf.rd hf.kn next Q fun y Z' ν' w' hst hν h1 hrs hr hm hz => hnext Z' ν' w' _ hst hν (hgood.next hf hst hν h1 hrs hr hm hz)
    rw [← hx x hxm]
    exact ⟨opv_R hgood x, opv_men hgood x⟩
  · rename_i g hgu
    -- what the guard says
    have hgw : ∀ (σ : St) (K Z : Nat → Prop) (ν : Nat → Value) (w : World) (a : Act), Good K Z N w ν σ a → (∀ d, d ∈ guardTmp ops o → σ.env d = e d) → Region.wanted o (yielded ops.toArray a.tmps) = g := by
      intro σ K Z ν w a hgood hins
      unfold guardOf at hgu
      split at hgu
      · cases hgu
      · rename_i j want hg
        split at hgu
        · rename_i oj hoj
          split at hgu
          · rename_i d hd
            have hde : σ.env d = e d := hins d (by unfold guardTmp; rw [hg]; dsimp only; rw [hoj]; dsimp only; rw [hd]; simp)
            have hr := (hgood.env d).2
            rw [hde] at hr
            have hyi : yielded ops.toArray a.tmps j = yielded ops.toArray a.tmps j := rfl
            have hgd : a.tmps.getD d undef = (a.tmps[d]?).getD undef := by simp [Array.getD_eq_getD_getElem?]
            have hsome : ∀ b : Bool, a.tmps.getD d undef = .bool b → yielded ops.toArray a.tmps j = some b := by
              intro b hb
              have : a.tmps[d]? = some (.bool b) := by
                rw [hgd] at hb
                cases ht : a.tmps[d]? with
                | none => rw [ht] at hb; cases hb
                | some x => rw [ht] at hb; simp only [Option.getD_some] at hb; rw [hb]
              unfold yielded
              simp only [List.getElem?_toArray, hoj, Option.bind_some, hd, this]
            have hnone : a.tmps.getD d undef = undef → yielded ops.toArray a.tmps j = none := by
              intro hb
              unfold yielded
              simp only [List.getElem?_toArray, hoj, Option.bind_some, hd]
              rw [hgd] at hb
              cases ht : a.tmps[d]? with
              | none => rfl
              | some x => rw [ht] at hb; simp only [Option.getD_some] at hb; subst hb; rfl
            have hwt : Region.wanted o (yielded ops.toArray a.tmps) = (yielded ops.toArray a.tmps j == some want) := by simp only [Region.wanted, hg]
            rw [hwt]
            split at hgu
            · rename_i b hb
              simp only [Option.some.injEq] at hgu
              have hb : e d = .bool b := hb
              rw [hb] at hr
              rw [hsome b (one1 hr), ← hgu]
              cases b <;> cases want <;> rfl
            · rename_i g' u hb
              have hb : e d = .whn g' u := hb
              rw [hb] at hr
              split at hgu
              · simp only [Option.some.injEq] at hgu
                subst hgu
                rename_i bb _
                cases g' with
                | true =>
                  rw [hsome bb (one1 (hr.1 rfl))]
                  cases bb <;> cases want <;> rfl
                | false =>
                  rw [hnone (one1 (hr.2 rfl))]
                  cases want <;> rfl
              · cases hgu
            · cases hgu
          · cases hgu
        · cases hgu
    -- what it does where it is wanted
    have fin : ∀ (get : Operand → AV) (gs : Prop) (r0 : EvR), whnR g gs (some r0) = some r → (g = true → gs → r0.ob → DoOK P ro o get l kn r0) → (g = false → RdIn l r0.rd) → (g = true → gs → ∀ (σ : St) (K Z : Nat → Prop) (ν : Nat → Value) (w : World) (a : Act), Good K Z N w ν σ a → (∀ x, x ∈ o.op.operands → opv σ.env x = opv e x) → ∀ x, x ∈ o.op.operands → R Z w (get x) ν true [a.eval x] ∧ men σ.mu (get x) = true) →
        OpRun P ro N ops.toArray o ⟨o.dst, (tmpsOf o.op.operands.toList ++ guardTmp ops o).map (fun t => (t, e t)), r.val, r.rd, r.wr, r.kn⟩ ∧ RdIn l r.rd ∧ (r.kn = none ∨ r.kn = some kn) := by
      intro get gs r0 hw hd hrd hrel
      unfold whnR at hw
      dsimp only at hw
      split at hw
      · rename_i hwr hkn
        simp only [Option.some.injEq] at hw
        subst hw
        refine ⟨?_, ?_, .inl rfl⟩
        · intro n K Z ν w a σ hgood hf next Q hnext
          obtain ⟨hx, hgi⟩ := hin σ (ins := []) hf rfl
          rw [hgw σ K Z ν w a hgood hgi]
          cases hgv : g with
          | true =>
            rw [if_pos rfl]
            refine ⟨fun _ _ => trivial, ?_⟩
            obtain ⟨hgs, hob0⟩ := hob hgv
            have hD := (hd hgv hgs hob0).does
            rw [hwr, hkn] at hD
            refine hD n K Z ν w a σ.mu σ.rs hgood.one hgood.rs hgood.zk hgood.kl (hrel hgv hgs σ K Z ν w a hgood hx) hf.rd (fun k hk => by cases hk) next Q fun y Z' ν' w' hst hν h1 hrs hr hm hz => hnext Z' ν' w' _ hst hν (hgood.next hf hst hν h1 hrs ⟨fun _ => hr, fun hg' => absurd (hgv.symm.trans hg') (by simp)⟩ (by show (!g || men (addK σ.mu none) r0.val) = true; rw [hm]; simp) hz)
          | false =>
            rw [if_neg (by simp)]
            refine ⟨fun _ _ => trivial, hnext Z ν w _ (Step.refl K Z w) (fun _ _ => rfl) (hgood.next hf (Step.refl K Z w) (fun _ _ => rfl) hgood.one ?_ ⟨fun hg' => absurd (hgv.symm.trans hg') (by simp), fun _ => rfl⟩ (by show (!g || men (addK σ.mu none) r0.val) = true; rw [hgv]; rfl) (fun b hb => hgood.kl b (hgood.zk b hb)))⟩
            rw [un_self hgood.zk]
            exact hgood.rs
        · cases hgv : g with
          | true => exact (hd hgv (hob hgv).1 (hob hgv).2).rd
          | false => exact hrd hgv
      · cases hw
    have rel : ∀ (σ : St) (K Z : Nat → Prop) (ν : Nat → Value) (w : World) (a : Act), Good K Z N w ν σ a → (∀ x, x ∈ o.op.operands → opv σ.env x = opv e x) → ∀ x, x ∈ o.op.operands → R Z w (opv e x) ν true [a.eval x] ∧ men σ.mu (opv e x) = true := fun σ K Z ν w a hgood hx x hxm => by
      rw [← hx x hxm]
      exact ⟨opv_R hgood x, opv_men hgood x⟩
    split at h
    · rename_i c x y ho
      cases he : evPick (opv e c) (opv e x) (opv e y) with
      | none => rw [he] at h; cases h
      | some r0 =>
        rw [he] at h
        refine fin (opv e) True r0 h (fun _ _ hob0 => ?_) (fun _ => ?_) (fun _ _ => rel)
        · obtain ⟨h1, h2, h3⟩ := evPick_ok (P := P) (l := l) (kn := kn) ho he hob0
          exact ⟨does_sem (by rw [ho]; intro c hc; cases hc) h1, h2, h3⟩
        · unfold evPick at he
          (repeat' split at he) <;> first | (cases he; done) | (simp only [Option.some.injEq] at he; subst he; exact rdin_nil)
    · rename_i op hnp
      cases he : ev1 tb sp (fun x => strip (opv e x)) l kn alt o.op with
      | none => rw [he] at h; cases h
      | some r0 =>
        rw [he] at h
        have hrd0 : RdIn l r0.rd := ev1_rd he
        refine fin (fun x => strip (opv e x)) _ r0 h (fun _ _ hob0 => (ev1_ok htb hmz hsp o he hob0).1) (fun _ => hrd0) (fun _ hgs σ K Z ν w a hgood hx x hxm => ?_)
        have hgdx : gd (opv e x) := gds_mem hgs _ (List.mem_map.2 ⟨x, by simpa using hxm, rfl⟩)
        obtain ⟨r1, r2⟩ := rel σ K Z ν w a hgood hx x hxm
        exact ⟨strip_R hgdx r1, strip_men hgdx r2⟩
end

end Go.Proofs.Ytgminhedbeblpaa.Cal
