/- Own texts of the proof, merged, in order. -/
import Derived.WalkKit
import Derived.KernelRfl
import Derived.RangeFuncNested
import Derived.RangeFuncRecord
import Derived.RangeFuncCalls
import Derived.OrdersIn
set_option linter.unusedVariables false
set_option linter.unusedSimpArgs false
namespace Go.Proofs.Ytbcghiagomkadaa.Cal
open Go
/-- No slice of the calculus is longer. -/
def lim : Nat := 140737488355328
inductive AV where
  | any
  | int (k : IntKind) (n : Int)
  | bool (b : Bool)
  | cst (v : Value)
  | own (k : Nat)
  | adr (k sz i o : Nat)
  | roI (xs : List Int)
  | roB (xs : List Bool)
  | roII (xss : List (List Int))
  | ro (sz n : Nat) (f : Nat → AV)
  | rop (u : AV)
  | agg (l : AV)
  | tup (l : AV)
  | nil
  | cons (h t : AV)
  | fn (f : Nat) (caps : AV)
  | yld (k : Nat)
  | whn (g : Bool) (u : AV)
/-- Where what a value names begins. -/
def baseOf : Value → Option (Nat × Nat)
  | .slice (some ⟨b, o, none⟩) _ _ => some (b, o)
  | .pointer (some ⟨b, o, none⟩) => some (b, o)
  | _ => none
def nu0 : Nat → Value := fun _ => .nilFunc
def noK : Nat → Bool := fun _ => false
/-- Which keys it names: all of μ. -/
def men (μ : Nat → Bool) : AV → Bool
  | .own k => μ k
  | .adr k _ _ _ => μ k
  | .agg l => men μ l
  | .tup l => men μ l
  | .cons h t => men μ h && men μ t
  | .fn _ c => men μ c
  | .yld k => μ k
  | .whn g u => !g || men μ u
  | _ => true
/-- A slice of n elements of sz cells that nobody writes; g says of each element which cells. -/
def roRow (Z : Nat → Prop) (w : World) (sz n : Nat) (g : Nat → List Value → Prop) (cs : List Value) : Prop :=
  ∃ A cap, cs = [.slice A n cap] ∧ n ≤ cap ∧ n ≤ lim ∧
    (0 < n → ∃ b o, A = some ⟨b, o, none⟩ ∧ Z b ∧ ∀ j, j < n → ∃ es, g j es ∧ es.length = sz ∧ ∀ (i : Nat) c, es[i]? = some c → w.cell? ⟨b, o + (j * sz + i), none⟩ = some c)
def intAt (xs : List Int) (j : Nat) (es : List Value) : Prop := es = [.int .i64 (xs.getD j 0)]
def boolAt (xs : List Bool) (j : Nat) (es : List Value) : Prop := es = [.bool (xs.getD j false)]
/-- 'av' says of the values 'cs': true: as values (one, or a list's); false: as the cells of a variable. -/
def R (Z : Nat → Prop) (w : World) : AV → (Nat → Value) → Bool → List Value → Prop
  | .any, _, _, cs => ∃ v, cs = [v]
  | .int k n, _, _, cs => cs = [.int k n]
  | .bool b, _, _, cs => cs = [.bool b]
  | .cst v, _, _, cs => cs = [v]
  | .own k, ν, _, cs => cs = [ν k]
  | .adr k sz i o, ν, _, cs => ∃ b f, baseOf (ν k) = some (b, f) ∧ cs = [.pointer (some ⟨b, f + (i * sz + o), none⟩)]
  | .roI xs, _, _, cs => roRow Z w 1 xs.length (intAt xs) cs
  | .roB xs, _, _, cs => roRow Z w 1 xs.length (boolAt xs) cs
  | .roII xss, _, _, cs => roRow Z w 1 xss.length (fun j es => roRow Z w 1 (xss.getD j []).length (intAt (xss.getD j [])) es) cs
  | .ro sz n f, _, _, cs => roRow Z w sz n (fun j es => men noK (f j) = true ∧ R Z w (f j) nu0 false es) cs
  | .rop u, _, _, cs => ∃ b o, cs = [.pointer (some ⟨b, o, none⟩)] ∧ Z b ∧ men noK u = true ∧ ∃ es, R Z w u nu0 false es ∧ ∀ (i : Nat) c, es[i]? = some c → w.cell? ⟨b, o + i, none⟩ = some c
  | .agg l, ν, true, cs => ∃ es, cs = [.agg es.toArray] ∧ R Z w l ν true es
  | .agg l, ν, false, cs => R Z w l ν true cs
  | .tup l, ν, _, cs => ∃ es, cs = [.tuple es.toArray] ∧ R Z w l ν true es
  | .nil, _, _, cs => cs = []
  | .cons h t, ν, _, cs => ∃ v vs, cs = v :: vs ∧ R Z w h ν true [v] ∧ R Z w t ν true vs
  | .fn f caps, ν, _, cs => ∃ vs, cs = [.func (.func f) #[] vs.toArray] ∧ R Z w caps ν true vs
  | .yld k, ν, _, cs => ∃ l, ν k = .map (some l) ∧ cs = [.func (.yield l) #[] #[]]
  | .whn g u, ν, _, cs => (g = true → R Z w u ν true cs) ∧ (g = false → cs = [undef])
theorem Zbf {Z Z' : Nat → Prop} {w w' : World} {sz n : Nat} {g g' : Nat → List Value → Prop} {cs : List Value} (hZ : ∀ b, Z b → Z' b) (hw : ∀ b, Z b → w'.heap[b]? = w.heap[b]?)
    (hg : ∀ j es, j < n → g j es → g' j es) (h : roRow Z w sz n g cs) : roRow Z' w' sz n g' cs := by
  obtain ⟨A, cap, e, h1, h2, h3⟩ := h
  refine ⟨A, cap, e, h1, h2, fun hn => ?_⟩
  obtain ⟨b, o, eA, hz, hj⟩ := h3 hn
  refine ⟨b, o, eA, hZ b hz, fun j hjn => ?_⟩
  obtain ⟨es, r, hl, hc⟩ := hj j hjn
  exact ⟨es, hg j es hjn r, hl, fun i c hi => (World.cell?_of_block (w := w) (hw b hz)).trans (hc i c hi)⟩
theorem Zbk {Z Z' : Nat → Prop} {w w' : World} (hZ : ∀ b, Z b → Z' b) (hw : ∀ b, Z b → w'.heap[b]? = w.heap[b]?) :
    ∀ {av : AV} {ν : Nat → Value} {m : Bool} {cs : List Value}, R Z w av ν m cs → R Z' w' av ν m cs := by
  intro av
  induction av with
  | roI xs => intro ν m cs h; exact Zbf hZ hw (fun _ _ _ h => h) h
  | roB xs => intro ν m cs h; exact Zbf hZ hw (fun _ _ _ h => h) h
  | roII xss => intro ν m cs h; exact Zbf hZ hw (fun _ _ _ h => Zbf hZ hw (fun _ _ _ h => h) h) h
  | ro sz n f ih => intro ν m cs h; exact Zbf hZ hw (fun j _ _ h => ⟨h.1, ih j h.2⟩) h
  | rop u ih =>
    intro ν m cs h
    obtain ⟨b, o, e, hz, hm, es, r, hc⟩ := h
    exact ⟨b, o, e, hZ b hz, hm, es, ih r, fun i c hi => (World.cell?_of_block (w := w) (hw b hz)).trans (hc i c hi)⟩
  | agg l ih =>
    intro ν m cs h
    cases m with
    | true => obtain ⟨es, e, r⟩ := h; exact ⟨es, e, ih r⟩
    | false => exact ih (m := true) h
  | tup l ih => intro ν m cs h; obtain ⟨es, e, r⟩ := h; exact ⟨es, e, ih r⟩
  | cons h t ih1 ih2 => intro ν m cs hh; obtain ⟨v, vs, e, r1, r2⟩ := hh; exact ⟨v, vs, e, ih1 r1, ih2 r2⟩
  | fn f c ih => intro ν m cs h; obtain ⟨vs, e, r⟩ := h; exact ⟨vs, e, ih r⟩
  | whn g u ih => intro ν m cs h; exact ⟨fun hg => ih (h.1 hg), h.2⟩
  | _ => intro ν m cs h; exact h
theorem R_nu {Z : Nat → Prop} {w : World} {μ : Nat → Bool} {ν ν' : Nat → Value} (hν : ∀ k, μ k = true → ν' k = ν k) :
    ∀ {av : AV} {m : Bool} {cs : List Value}, men μ av = true → R Z w av ν m cs → R Z w av ν' m cs := by
  intro av
  induction av with
  | own k => intro m cs hm h; show cs = [ν' k]; rw [hν k hm]; exact h
  | adr k sz i o => intro m cs hm h; show ∃ b f, baseOf (ν' k) = some (b, f) ∧ _; rw [hν k hm]; exact h
  | yld k => intro m cs hm h; show ∃ l, ν' k = .map (some l) ∧ _; rw [hν k hm]; exact h
  | agg l ih =>
    intro m cs hm h
    cases m with
    | true => obtain ⟨es, e, r⟩ := h; exact ⟨es, e, ih hm r⟩
    | false => exact ih (m := true) hm h
  | tup l ih => intro m cs hm h; obtain ⟨es, e, r⟩ := h; exact ⟨es, e, ih hm r⟩
  | cons h t ih1 ih2 =>
    intro m cs hm hh
    simp only [men, Bool.and_eq_true] at hm
    obtain ⟨v, vs, e, r1, r2⟩ := hh
    exact ⟨v, vs, e, ih1 hm.1 r1, ih2 hm.2 r2⟩
  | fn f c ih => intro m cs hm h; obtain ⟨vs, e, r⟩ := h; exact ⟨vs, e, ih hm r⟩
  | whn g u ih => intro m cs hm h; exact ⟨fun hg => ih (by subst hg; exact hm) (h.1 hg), h.2⟩
  | _ => intro m cs hm h; exact h
theorem Zc2 {μ μ' : Nat → Bool} (hle : ∀ k, μ k = true → μ' k = true) : ∀ {av : AV}, men μ av = true → men μ' av = true := by
  intro av
  induction av with
  | own k => intro h; exact hle _ h
  | adr k _ _ _ => intro h; exact hle _ h
  | yld k => intro h; exact hle _ h
  | agg l ih => exact ih
  | tup l ih => exact ih
  | fn f c ih => exact ih
  | whn g u ih => intro h; cases g with
    | true => exact ih h
    | false => rfl
  | cons h t ih1 ih2 => intro hh; simp only [men, Bool.and_eq_true] at *; exact ⟨ih1 hh.1, ih2 hh.2⟩
  | _ => intro h; rfl
theorem Zcl {Z : Nat → Prop} {w : World} {ν ν' : Nat → Value} {av : AV} {m : Bool} {cs : List Value} (hm : men noK av = true) (h : R Z w av ν m cs) : R Z w av ν' m cs := R_nu (μ := noK) (fun _ h => by cases h) hm h
theorem Zbr {μ : Nat → Bool} {av : AV} (hm : men noK av = true) : men μ av = true := Zc2 (fun _ h => by cases h) hm
/-- Renaming of keys. -/
def ren (ρ : Nat → Nat) : AV → AV
  | .own k => .own (ρ k)
  | .adr k sz i o => .adr (ρ k) sz i o
  | .agg l => .agg (ren ρ l)
  | .tup l => .tup (ren ρ l)
  | .cons h t => .cons (ren ρ h) (ren ρ t)
  | .fn f c => .fn f (ren ρ c)
  | .yld k => .yld (ρ k)
  | .whn g u => .whn g (ren ρ u)
  | x => x
theorem R_ren {Z : Nat → Prop} {w : World} {ρ : Nat → Nat} {ν : Nat → Value} :
    ∀ {av : AV} {m : Bool} {cs : List Value}, R Z w (ren ρ av) ν m cs ↔ R Z w av (fun k => ν (ρ k)) m cs := by
  intro av
  induction av with
  | agg l ih => intro m cs; cases m <;> simp only [ren, R, ih]
  | tup l ih => intro m cs; simp only [ren, R, ih]
  | cons h t ih1 ih2 => intro m cs; simp only [ren, R, ih1, ih2]
  | fn f c ih => intro m cs; simp only [ren, R, ih]
  | whn g u ih => intro m cs; simp only [ren, R, ih]
  | _ => intro m cs; exact Iff.rfl
end Go.Proofs.Ytbcghiagomkadaa.Cal
namespace Go.Proofs.Ytbcghiagomkadaa.Cal
open Go
inductive Blk where
  | ints (xs : List Int)
  | bools (xs : List Bool)
  | avs (sz n : Nat) (f : Nat → AV)
  | box (u : AV)
  | rowsR (xss : List (List Int))
  | rows (xss : List (List Int))
  | rowsH (xss : List (List Int)) (i k : Nat)
  | mp (es : List (Int × Int × Nat)) (c : Nat)
  | dfr
  | sem (ks : List Nat) (A : List Value → (Nat → Prop) → World → (Nat → Prop) → Prop)
/-- A slice of n elements of sz cells each; g says of each element which cells. -/
def row (w : World) (x : Value) (sz n : Nat) (g : Nat → List Value → Prop) (F : Nat → Prop) : Prop :=
  (x = .slice none 0 0 ∧ n = 0 ∧ ∀ y, ¬ F y) ∨
  ∃ b o cap cells T, x = .slice (some ⟨b, o, none⟩) n cap ∧ n ≤ cap ∧ n ≤ lim ∧ w.heap[b]? = some (.cells cells T (0, 0)) ∧ o + cap * sz ≤ cells.size ∧ (∀ y, F y ↔ y = b) ∧
    ∀ j, j < n → ∃ es, g j es ∧ es.length = sz ∧ ∀ (i : Nat) c, es[i]? = some c → cells[o + (j * sz + i)]? = some c
/-- Those rows of a slice of rows that 'c' lets through: each owned, apart from the others and from what holds them. -/
def rowsAt (w : World) (ys : Nat → Value) (G : Nat → Nat → Prop) (F0 : Nat → Prop) (xss : List (List Int)) (c : Nat → Prop) : Prop :=
  ∀ j, j < xss.length → c j → row w (ys j) 1 (xss.getD j []).length (intAt (xss.getD j [])) (G j) ∧ (ys j).oneCell' = true ∧ (∀ y, G j y → ¬ F0 y) ∧ ∀ i, i < xss.length → c i → i ≠ j → ∀ y, G j y → ¬ G i y
/-- An entry of a map from numbers to numbers. -/
def ent (e : Int × Int × Nat) : MapEntry := ⟨.int .i64 e.1, .int .i64 e.2.1, e.2.2⟩
/-- A value that stands for some loops' marks. -/
def markV (bs : List Nat) : Value := .func (.func 0) #[] (bs.map fun b => Value.map (some b)).toArray
def marksAt : Value → List Nat
  | .func _ _ cs => cs.toList.filterMap fun v => match v with | .map (some r) => some r | _ => none
  | _ => []
theorem marksAt_V {bs : List Nat} : marksAt (markV bs) = bs := by
  unfold marksAt markV
  dsimp only
  rw [List.filterMap_map]
  exact List.filterMap_some
def sat (Z : Nat → Prop) (w : World) (ν : Nat → Value) (x : Value) (F : Nat → Prop) : Blk → Prop
  | .ints xs => row w x 1 xs.length (intAt xs) F
  | .bools xs => row w x 1 xs.length (boolAt xs) F
  | .avs sz n f => row w x sz n (fun j es => R Z w (f j) ν false es) F
  | .box u => ∃ b cells T, x = .pointer (some ⟨b, 0, none⟩) ∧ w.heap[b]? = some (.cells cells T (0, 0)) ∧ R Z w u ν false cells.toList ∧ ∀ y, F y ↔ y = b
  | .rowsR xss => row w x 1 xss.length (fun j es => R Z w (.roI (xss.getD j [])) ν false es) F
  | .rows xss => ∃ (ys : Nat → Value) (G : Nat → Nat → Prop) (F0 : Nat → Prop), row w x 1 xss.length (fun j es => es = [ys j]) F0 ∧ rowsAt w ys G F0 xss (fun _ => True) ∧ (∀ y, F y ↔ F0 y ∨ ∃ j, j < xss.length ∧ G j y)
  | .rowsH xss i k => ∃ (ys : Nat → Value) (G : Nat → Nat → Prop) (F0 : Nat → Prop), row w x 1 xss.length (fun j es => es = [ys j]) F0 ∧ rowsAt w ys G F0 xss (fun j => j ≠ i) ∧ ys i = ν k ∧ (∀ y, F y ↔ F0 y ∨ ∃ j, j < xss.length ∧ j ≠ i ∧ G j y)
  | .mp es c => ∃ b arr, x = .map (some b) ∧ w.heap[b]? = some (.map arr c) ∧ arr.toList = es.map ent ∧ ∀ y, F y ↔ y = b
  | .dfr => ∃ bs : List Nat, x = markV bs ∧ (∀ b, b ∈ bs → w.heap[b]? = some (.deferred (some []))) ∧ bs.Nodup ∧ ∀ y, F y ↔ y ∈ bs
  | .sem ks A => ∀ (Z' : Nat → Prop) (w' : World), (∀ y, Z y → Z' y) → (∀ y, Z y ∨ F y → w'.heap[y]? = w.heap[y]?) → A (ks.map ν) Z' w' F
def menB (μ : Nat → Bool) : Blk → Prop
  | .avs _ n f => ∀ j, j < n → men μ (f j) = true
  | .box u => men μ u = true
  | .rowsH _ _ k => μ k = true
  | .sem ks _ => ∀ k, k ∈ ks → μ k = true
  | _ => True
def renB (ρ : Nat → Nat) : Blk → Blk
  | .avs sz n f => .avs sz n (fun j => ren ρ (f j))
  | .box u => .box (ren ρ u)
  | .rowsH xss i k => .rowsH xss i (ρ k)
  | .sem ks A => .sem (ks.map ρ) A
  | b => b
theorem Za8 {w w' : World} {x : Value} {sz n : Nat} {g g' : Nat → List Value → Prop} {F : Nat → Prop} (hw : ∀ b, F b → w'.heap[b]? = w.heap[b]?) (hg : ∀ j es, j < n → g j es → g' j es)
    (h : row w x sz n g F) : row w' x sz n g' F := by
  rcases h with h | ⟨b, o, cap, cells, T, hx, h1, h2, h3, h4, h5, h6⟩
  · exact .inl h
  · refine .inr ⟨b, o, cap, cells, T, hx, h1, h2, (hw b ((h5 b).2 rfl)).trans h3, h4, h5, fun j hj => ?_⟩
    obtain ⟨es, r, hl, hc⟩ := h6 j hj
    exact ⟨es, hg j es hj r, hl, hc⟩
theorem rowsAt_mono {w w' : World} {ys : Nat → Value} {G : Nat → Nat → Prop} {F0 : Nat → Prop} {xss : List (List Int)} {c : Nat → Prop} (hw : ∀ j, j < xss.length → c j → ∀ b, G j b → w'.heap[b]? = w.heap[b]?)
    (h : rowsAt w ys G F0 xss c) : rowsAt w' ys G F0 xss c := fun j hl hc => by
  obtain ⟨r, d⟩ := h j hl hc
  exact ⟨Za8 (hw j hl hc) (fun _ _ _ h => h) r, d⟩
theorem Zbo {Z Z' : Nat → Prop} {w w' : World} {ν : Nat → Value} {x : Value} {F : Nat → Prop} {B : Blk} (hZ : ∀ b, Z b → Z' b) (hz : ∀ b, Z b → w'.heap[b]? = w.heap[b]?)
    (hw : ∀ b, F b → w'.heap[b]? = w.heap[b]?) (h : sat Z w ν x F B) : sat Z' w' ν x F B := by
  cases B with
  | ints xs => exact Za8 hw (fun _ _ _ h => h) h
  | bools xs => exact Za8 hw (fun _ _ _ h => h) h
  | avs sz n f => exact Za8 hw (fun _ _ _ h => Zbk hZ hz h) h
  | box u =>
    obtain ⟨b, cells, T, hx, hb, r, hF⟩ := h
    exact ⟨b, cells, T, hx, (hw b ((hF b).2 rfl)).trans hb, Zbk hZ hz r, hF⟩
  | rowsR xss => exact Za8 hw (fun _ _ _ h => Zbk hZ hz h) h
  | rows xss =>
    obtain ⟨ys, G, F0, h0, hj, hF⟩ := h
    exact ⟨ys, G, F0, Za8 (fun b hb => hw b ((hF b).2 (.inl hb))) (fun _ _ _ h => h) h0, rowsAt_mono (fun j hl _ b hb => hw b ((hF b).2 (.inr ⟨j, hl, hb⟩))) hj, hF⟩
  | rowsH xss i k =>
    obtain ⟨ys, G, F0, h0, hj, hk, hF⟩ := h
    exact ⟨ys, G, F0, Za8 (fun b hb => hw b ((hF b).2 (.inl hb))) (fun _ _ _ h => h) h0, rowsAt_mono (fun j hl hc b hb => hw b ((hF b).2 (.inr ⟨j, hl, hc, hb⟩))) hj, hk, hF⟩
  | mp es c => obtain ⟨b, arr, hx, hb, he, hF⟩ := h; exact ⟨b, arr, hx, (hw b ((hF b).2 rfl)).trans hb, he, hF⟩
  | dfr => obtain ⟨bs, hx, hb, hn, hF⟩ := h; exact ⟨bs, hx, fun b hm => (hw b ((hF b).2 hm)).trans (hb b hm), hn, hF⟩
  | sem ks A =>
    exact fun Z2 w2 h1 h2 => h Z2 w2 (fun y hy => h1 y (hZ y hy)) (fun y hy => by
      rcases hy with hy | hy
      · exact (h2 y (.inl (hZ y hy))).trans (hz y hy)
      · exact (h2 y (.inr hy)).trans (hw y hy))
theorem getD_mem_or {α : Type} (xs : List α) (j : Nat) (d : α) (h : j < xs.length) : xs.getD j d ∈ xs := by
  simp [List.getD_eq_getElem?_getD, List.getElem?_eq_getElem h]
theorem Zdi {Z : Nat → Prop} {w : World} {μ : Nat → Bool} {ν ν' : Nat → Value} {x : Value} {F : Nat → Prop} {B : Blk} (hν : ∀ k, μ k = true → ν' k = ν k) (hm : menB μ B) (h : sat Z w ν x F B) : sat Z w ν' x F B := by
  cases B with
  | avs sz n f => exact Za8 (fun _ _ => rfl) (fun j es hj h => R_nu hν (hm j hj) h) h
  | rowsH xss i k => obtain ⟨ys, G, F0, h0, hj, hk, hF⟩ := h; exact ⟨ys, G, F0, h0, hj, by rw [hν k hm]; exact hk, hF⟩
  | box u => obtain ⟨b, cells, T, hx, hb, r, hF⟩ := h; exact ⟨b, cells, T, hx, hb, R_nu hν hm r, hF⟩
  | sem ks A =>
    intro Z' w' h1 h2
    rw [List.map_congr_left (fun k hk => hν k (hm k hk))]
    exact h Z' w' h1 h2
  | _ => exact h
theorem sat_ren {Z : Nat → Prop} {w : World} {ρ : Nat → Nat} {ν : Nat → Value} {x : Value} {F : Nat → Prop} {B : Blk} : sat Z w ν x F (renB ρ B) ↔ sat Z w (fun k => ν (ρ k)) x F B := by
  cases B with
  | avs sz n f => simp only [renB, sat, R_ren]
  | box u => simp only [renB, sat, R_ren]
  | sem ks A => simp only [renB, sat, List.map_map]; exact Iff.rfl
  | _ => exact Iff.rfl
theorem Zcu {μ μ' : Nat → Bool} (hle : ∀ k, μ k = true → μ' k = true) {B : Blk} (h : menB μ B) : menB μ' B := by
  cases B with
  | avs sz n f => exact fun u hu => Zc2 hle (h u hu)
  | rowsH xss i k => exact hle k h
  | box u => exact Zc2 hle h
  | sem ks A => exact fun k hk => hle k (h k hk)
  | _ => exact trivial
abbrev Env := Nat → AV
abbrev Rs := Nat → Option Blk
/-- The resources of a state lie apart from each other and from what must be kept. -/
def GoodRs (K Z : Nat → Prop) (w : World) (ν : Nat → Value) (μ : Nat → Bool) (rs : Rs) : Prop :=
  ∃ Ft : Nat → Nat → Prop, ∀ k b, rs k = some b → μ k = true ∧ menB μ b ∧ sat Z w ν (ν k) (Ft k) b ∧ (∀ x, Ft k x → ¬ K x ∧ x < w.heap.size) ∧
    ∀ k' b', k ≠ k' → rs k' = some b' → ∀ x, Ft k x → ¬ Ft k' x
structure St where
  mu : Nat → Bool
  env : Env
  rs : Rs
  ms : List Nat
theorem fmC {α β : Type} {f g : α → List β} : ∀ {l : List α}, (∀ k, k ∈ l → f k = g k) → l.flatMap f = l.flatMap g
  | [], _ => rfl
  | a :: l, h => by rw [List.flatMap_cons, List.flatMap_cons, h a List.mem_cons_self, fmC fun k hk => h k (List.mem_cons_of_mem _ hk)]
/-- What a range over a function leaves to be collected at a call's end. -/
def markOf (v : Value) : List Deferred := match v with
  | .func (.func (n + 1)) _ cs => [{ target := .fn (.func (n + 1)) cs, args := #[] }]
  | v => (marksAt v).map fun r => { target := .collected r, args := #[] }
theorem markOf_V {bs : List Nat} : markOf (markV bs) = bs.map fun r => { target := .collected r, args := #[] } := by
  have h : markOf (markV bs) = (marksAt (markV bs)).map fun r => { target := .collected r, args := #[] } := rfl
  rw [h, marksAt_V]
structure Good (K Z : Nat → Prop) (N : Nat) (w : World) (ν : Nat → Value) (σ : St) (a : Act) : Prop where
  size : a.tmps.size = N
  one : ∀ k, (ν k).oneCell' = true
  env : ∀ s, men σ.mu (σ.env s) = true ∧ R Z w (σ.env s) ν true [a.tmps.getD s undef]
  rs : GoodRs K Z w ν σ.mu σ.rs
  zk : ∀ b, Z b → K b
  kl : ∀ b, K b → b < w.heap.size
  ds : a.defers = σ.ms.flatMap (fun k => markOf (ν k))
  ml : ∀ k, k ∈ σ.ms → σ.mu k = true
structure Ext (K : Nat → Prop) (w w' : World) : Prop where
  os : w'.os = w.os
  tape : w'.tape = w.tape
  output : w'.output = w.output
  size : w.heap.size ≤ w'.heap.size
  block : ∀ b, K b → w'.heap[b]? = w.heap[b]?
structure Step (K Z : Nat → Prop) (w : World) (Z' : Nat → Prop) (w' : World) : Prop where
  ext : Ext K w w'
  le : ∀ b, Z b → Z' b
  new : ∀ b, Z' b → Z b ∨ ¬ K b
def un (K Z : Nat → Prop) : Nat → Prop := fun b => K b ∨ Z b
theorem Ext.refl (K : Nat → Prop) (w : World) : Ext K w w := ⟨rfl, rfl, rfl, Nat.le_refl _, fun _ _ => rfl⟩
theorem Step.refl (K Z : Nat → Prop) (w : World) : Step K Z w Z w := ⟨Ext.refl K w, fun _ h => h, fun _ h => .inl h⟩
theorem Step.trans {K Z : Nat → Prop} {w : World} {Z1 : Nat → Prop} {w1 : World} {Z2 : Nat → Prop} {w2 : World} (h1 : Step K Z w Z1 w1) (h2 : Step (un K Z1) Z1 w1 Z2 w2) : Step K Z w Z2 w2 :=
  ⟨⟨h2.ext.os.trans h1.ext.os, h2.ext.tape.trans h1.ext.tape, h2.ext.output.trans h1.ext.output, Nat.le_trans h1.ext.size h2.ext.size, fun b hb => (h2.ext.block b (.inl hb)).trans (h1.ext.block b hb)⟩,
    fun b hb => h2.le b (h1.le b hb), fun b hb => by
      rcases h2.new b hb with h | h
      · exact h1.new b h
      · exact .inr fun hk => h (.inl hk)⟩
theorem GoodRs.mono {K K' Z Z' : Nat → Prop} {w w' : World} {ν : Nat → Value} {μ : Nat → Bool} {rs : Rs} (h : GoodRs K Z w ν μ rs) (hZ : ∀ b, Z b → Z' b) (hz : ∀ b, Z b → w'.heap[b]? = w.heap[b]?)
    (hs : w.heap.size ≤ w'.heap.size) (hK : ∀ b, K' b → K b ∨ w.heap.size ≤ b) (hw : ∀ b, ¬ K b → b < w.heap.size → w'.heap[b]? = w.heap[b]?) : GoodRs K' Z' w' ν μ rs := by
  obtain ⟨Ft, h⟩ := h
  refine ⟨Ft, fun k b hk => ?_⟩
  obtain ⟨h1, h2, h3, h4, h5⟩ := h k b hk
  refine ⟨h1, h2, Zbo hZ hz (fun x hx => hw x (h4 x hx).1 (h4 x hx).2) h3, fun x hx => ⟨fun hK' => ?_, Nat.lt_of_lt_of_le (h4 x hx).2 hs⟩, h5⟩
  rcases hK x hK' with h | h
  · exact (h4 x hx).1 h
  · have := (h4 x hx).2; omega
theorem GoodRs.nu {K Z : Nat → Prop} {w : World} {ν ν' : Nat → Value} {μ μ' : Nat → Bool} {rs : Rs} (h : GoodRs K Z w ν μ rs) (hμ : ∀ k, μ k = true → μ' k = true) (hν : ∀ k, μ k = true → ν' k = ν k) : GoodRs K Z w ν' μ' rs := by
  obtain ⟨Ft, h⟩ := h
  refine ⟨Ft, fun k b hk => ?_⟩
  obtain ⟨h1, h2, h3, h4, h5⟩ := h k b hk
  exact ⟨hμ k h1, Zcu hμ h2, by rw [hν k h1]; exact Zdi hν h2 h3, h4, h5⟩
theorem GoodRs.sub {K Z : Nat → Prop} {w : World} {ν : Nat → Value} {μ : Nat → Bool} {rs rs' : Rs} (h : GoodRs K Z w ν μ rs) (hr : ∀ k b, rs' k = some b → rs k = some b) : GoodRs K Z w ν μ rs' := by
  obtain ⟨Ft, h⟩ := h
  refine ⟨Ft, fun k b hk => ?_⟩
  obtain ⟨h1, h2, h3, h4, h5⟩ := h k b (hr k b hk)
  exact ⟨h1, h2, h3, h4, fun k' b' hne hk' => h5 k' b' hne (hr k' b' hk')⟩
/-- The fence of the calculus: wide, in a round or not. -/
def FF (ro : Option Nat) : Fence := { Fence.wide with round := ro }
section
variable (P : Program) (ro : Option Nat) (N κ : Nat)
/-- What a code comes to from a state. -/
def Post (K Z : Nat → Prop) (w : World) (ν : Nat → Value) (Q : Exit → St → Prop) (e : Exit) (a' : Act) (w' : World) : Prop :=
  ∃ Z' ν' σ', Step K Z w Z' w' ∧ (∀ k, k < κ → ν' k = ν k) ∧ Good (un K Z') Z' N w' ν' σ' a' ∧ Q e σ'
def awp (c : Code) (σ : St) (Q : Exit → St → Prop) : Prop :=
  ∀ n K Z ν w a, Good K Z N w ν σ a → c.wpIn (FF ro) n P (Post N κ K Z w ν Q) a w
end
theorem un_assoc {K Z1 Z2 : Nat → Prop} (h : ∀ b, Z1 b → Z2 b) : un (un K Z1) Z2 = un K Z2 := by
  funext b
  simp only [un, eq_iff_iff]
  exact ⟨fun hh => hh.elim (fun h1 => h1.elim .inl fun h1 => .inr (h b h1)) .inr, fun hh => hh.elim (fun h1 => .inl (.inl h1)) .inr⟩
theorem Post.trans {N κ : Nat} {K Z : Nat → Prop} {w : World} {ν : Nat → Value} {Q : Exit → St → Prop} {e : Exit} {a' : Act} {w' : World} {Z1 : Nat → Prop} {w1 : World} {ν1 : Nat → Value} (h1 : Step K Z w Z1 w1) (hν : ∀ k, k < κ → ν1 k = ν k)
    (h : Post N κ (un K Z1) Z1 w1 ν1 Q e a' w') : Post N κ K Z w ν Q e a' w' := by
  obtain ⟨Z', ν', σ', hs, hk, hg, hq⟩ := h
  exact ⟨Z', ν', σ', h1.trans hs, fun k hk' => (hk k hk').trans (hν k hk'), by rw [un_assoc hs.le] at hg; exact hg, hq⟩
section rules
variable {P : Program} {ro : Option Nat} {N κ : Nat} {σ : St} {Q : Exit → St → Prop}
theorem Zeq {c : Code} {Q' : Exit → St → Prop} (h : awp P ro N κ c σ Q) (hq : ∀ e s, Q e s → Q' e s) : awp P ro N κ c σ Q' :=
  fun n K Z ν w a hg => wpIn_mono (h n K Z ν w a hg) fun e a' w' ⟨Z', ν', σ', h1, h2, h3, h4⟩ => ⟨Z', ν', σ', h1, h2, h3, hq _ _ h4⟩
theorem Zbq {K Z : Nat → Prop} (h : ∀ b, Z b → K b) : un K Z = K := by
  funext b
  simp only [un, eq_iff_iff]
  exact ⟨fun hh => hh.elim id (h b), .inl⟩
theorem Zcc {K Z : Nat → Prop} {w : World} {ν : Nat → Value} {a : Act} {e : Exit} (hg : Good K Z N w ν σ a) (h : Q e σ) : Post N κ K Z w ν Q e a w :=
  ⟨Z, ν, σ, Step.refl K Z w, fun _ _ => rfl, by rw [Zbq hg.zk]; exact hg, h⟩
theorem Zap (h : Q .normal σ) : awp P ro N κ .skip σ Q := fun n K Z ν w a hg => wpIn_skip (Zcc hg h)
theorem Zam {l : Nat} (h : Q .normal σ) : awp P ro N κ (.label l) σ Q := fun n K Z ν w a hg => wpIn_label (Zcc hg h)
theorem Zar {id : Nat} (h : Q (.exit id) σ) : awp P ro N κ (.exit id) σ Q := fun n K Z ν w a hg => wpIn_exit (Zcc hg h)
theorem Zat (h : Q .ret σ) : awp P ro N κ .ret σ Q := fun n K Z ν w a hg => wpIn_ret (Zcc hg h)
def thenQ (next : St → Prop) (Q : Exit → St → Prop) : Exit → St → Prop
  | .normal, s => next s
  | e, s => Q e s
theorem Zas {x y : Code} (h : awp P ro N κ x σ (thenQ (fun s => awp P ro N κ y s Q) Q)) : awp P ro N κ (.seq x y) σ Q := by
  intro n K Z ν w a hg
  refine wpIn_seq (wpIn_mono (h n K Z ν w a hg) ?_)
  rintro e a' w' ⟨Z', ν', σ', h1, h2, h3, h4⟩
  cases e with
  | normal => exact wpIn_mono (h4 n _ _ _ _ _ h3) fun e2 a2 w2 hp => hp.trans h1 h2
  | _ => exact ⟨Z', ν', σ', h1, h2, h3, h4⟩
def blockQ (id : Nat) (Q : Exit → St → Prop) : Exit → St → Prop
  | .exit id', s => if id' = id then Q .normal s else Q (.exit id') s
  | e, s => Q e s
theorem Zao {id : Nat} {c : Code} (h : awp P ro N κ c σ (blockQ id Q)) : awp P ro N κ (.block id c) σ Q := by
  intro n K Z ν w a hg
  refine wpIn_block (wpIn_mono (h n K Z ν w a hg) ?_)
  rintro e a' w' ⟨Z', ν', σ', h1, h2, h3, h4⟩
  cases e with
  | exit id' =>
    show (if id' = id then _ else _)
    simp only [blockQ] at h4
    split
    · rw [if_pos ‹_›] at h4; exact ⟨Z', ν', σ', h1, h2, h3, h4⟩
    · rw [if_neg ‹_›] at h4; exact ⟨Z', ν', σ', h1, h2, h3, h4⟩
  | _ => exact ⟨Z', ν', σ', h1, h2, h3, h4⟩
def opv (env : Env) : Operand → AV
  | .tmp t => env t
  | .const v => match v with | .int k n => .int k n | .bool b => .bool b | v => .cst v
  | .func f => .fn f .nil
  | .global g => .cst (.pointer (some ⟨g, 0, none⟩))
theorem Zg5 {K Z : Nat → Prop} {w : World} {ν : Nat → Value} {a : Act} (hg : Good K Z N w ν σ a) (x : Operand) : R Z w (opv σ.env x) ν true [a.eval x] := by
  cases x with
  | tmp t => exact (hg.env t).2
  | const v => cases v <;> exact rfl
  | func f => exact ⟨[], rfl, rfl⟩
  | global g => exact rfl
theorem Zfi {K Z : Nat → Prop} {w : World} {ν : Nat → Value} {a : Act} (hg : Good K Z N w ν σ a) (x : Operand) : men σ.mu (opv σ.env x) = true := by
  cases x with
  | tmp t => exact (hg.env t).1
  | const v => cases v <;> exact rfl
  | func f => rfl
  | global g => rfl
theorem awp_cond {c : Operand} {x y : Code} {b : Bool} (hc : opv σ.env c = .bool b) (ht : b = true → awp P ro N κ x σ Q) (hf : b = false → awp P ro N κ y σ Q) : awp P ro N κ (.cond c x y) σ Q := by
  intro n K Z ν w a hg
  have hr := Zg5 hg c
  rw [hc] at hr
  have hv : a.eval c = .bool b := by simpa [R] using hr
  exact wpIn_cond_split hv (fun h => ht h n K Z ν w a hg) (fun h => hf h n K Z ν w a hg)
/-- A state may be taken for a weaker one: keys renamed, temporaries and resources forgotten. -/
structure Le (κ : Nat) (σ : St) (ρ : Nat → Nat) (σ' : St) : Prop where
  env : ∀ s, σ'.env s = .any ∨ (men σ'.mu (σ'.env s) = true ∧ ren ρ (σ'.env s) = σ.env s)
  rs : ∀ k b, σ'.rs k = some b → σ'.mu k = true ∧ menB σ'.mu b ∧ σ.rs (ρ k) = some (renB ρ b)
  inj : ∀ k k' b b', σ'.rs k = some b → σ'.rs k' = some b' → ρ k = ρ k' → k = k'
  ms : σ'.ms.map ρ = σ.ms
  ml : ∀ k, k ∈ σ'.ms → σ'.mu k = true
  id : ∀ k, k < κ → ρ k = k
theorem Good.le {K Z : Nat → Prop} {w : World} {ν : Nat → Value} {a : Act} {ρ : Nat → Nat} {σ' : St} (hg : Good K Z N w ν σ a) (h : Le κ σ ρ σ') : Good K Z N w (fun k => ν (ρ k)) σ' a := by
  refine ⟨hg.size, fun k => hg.one _, fun s => ?_, ?_, hg.zk, hg.kl, ?_, h.ml⟩
  · rcases h.env s with he | ⟨hm, he⟩
    · rw [he]; exact ⟨rfl, _, rfl⟩
    · refine ⟨hm, R_ren.1 ?_⟩
      rw [he]; exact (hg.env s).2
  · obtain ⟨Ft, hF⟩ := hg.rs
    refine ⟨fun k => Ft (ρ k), fun k b hk => ?_⟩
    obtain ⟨h1, h2, h3⟩ := h.rs k b hk
    obtain ⟨g1, g2, g3, g4, g5⟩ := hF _ _ h3
    exact ⟨h1, h2, sat_ren.1 g3, g4, fun k' b' hne hk' => g5 _ _ (fun e => hne (h.inj k k' b b' hk hk' e)) (h.rs k' b' hk').2.2⟩
  · rw [hg.ds, ← h.ms, List.flatMap_map]
theorem awp_le {c : Code} {ρ : Nat → Nat} {σ' : St} (hle : Le κ σ ρ σ') (h : awp P ro N κ c σ' Q) : awp P ro N κ c σ Q := by
  intro n K Z ν w a hg
  refine wpIn_mono (h n K Z _ w a (hg.le hle)) ?_
  rintro e a' w' ⟨Z', ν', s', h1, h2, h3, h4⟩
  exact ⟨Z', ν', s', h1, fun k hk => by rw [h2 k hk]; show ν (ρ k) = ν k; rw [hle.id k hk], h3, h4⟩
theorem awp_loop {c : Code} {τ : Type} (I : τ → Prop) (S : τ → St) (μ : τ → Nat) (t0 : τ) (ρ0 : Nat → Nat) (hle : Le κ σ ρ0 (S t0)) (h0 : I t0)
    (round : ∀ t, I t → awp P ro N κ c (S t) (thenQ (fun s => ∃ t' ρ, Le κ s ρ (S t') ∧ I t' ∧ μ t' < μ t) Q)) : awp P ro N κ (.loop c) σ Q := by
  refine awp_le hle ?_
  clear hle
  intro n K Z ν w a hg
  let inv : Act → World → Nat → Prop := fun a' w' m => ∃ t Z' ν', Step K Z w Z' w' ∧ (∀ k, k < κ → ν' k = ν k) ∧ Good (un K Z') Z' N w' ν' (S t) a' ∧ I t ∧ μ t = m
  classical
  let msr : Act → World → Nat := fun a' w' => if h : ∃ m, inv a' w' m ∧ ∀ m', inv a' w' m' → m ≤ m' then Classical.choose h else 0
  have hmin : ∀ a' w' m, inv a' w' m → inv a' w' (msr a' w') ∧ msr a' w' ≤ m := by
    intro a' w' m hm
    have hex : ∃ m, inv a' w' m ∧ ∀ m', inv a' w' m' → m ≤ m' := by
      have key : ∀ j m, m ≤ j → inv a' w' m → ∃ m, inv a' w' m ∧ ∀ m', inv a' w' m' → m ≤ m' := by
        intro j
        induction j with
        | zero => intro m hj hm; exact ⟨m, hm, fun m' _ => by omega⟩
        | succ j ih =>
          intro m hj hm
          by_cases hs : ∃ m', inv a' w' m' ∧ m' < m
          · obtain ⟨m', h1, h2⟩ := hs
            exact ih m' (by omega) h1
          · exact ⟨m, hm, fun m' h' => Nat.le_of_not_lt fun hlt => hs ⟨m', h', hlt⟩⟩
      exact key m m (Nat.le_refl _) hm
    have hd : msr a' w' = Classical.choose hex := by simp only [msr]; rw [dif_pos hex]
    have hc := Classical.choose_spec hex
    rw [hd]
    exact ⟨hc.1, hc.2 m hm⟩
  refine wpIn_loop (fun a' w' => ∃ m, inv a' w' m) msr ⟨μ t0, t0, Z, ν, Step.refl K Z w, fun _ _ => rfl, by rw [Zbq hg.zk]; exact hg, h0, rfl⟩ ?_
  rintro a1 w1 ⟨m, hm⟩
  obtain ⟨⟨t, Z1, ν1, s1, k1, g1, i1, e1⟩, _⟩ := hmin a1 w1 m hm
  refine wpIn_mono (round t i1 n _ _ _ _ _ g1) ?_
  rintro e a2 w2 ⟨Z2, ν2, σ2, s2, k2, g2, q2⟩
  cases e with
  | normal =>
    obtain ⟨t', ρ, hle, hi, hlt⟩ := q2
    have hinv : inv a2 w2 (μ t') := ⟨t', Z2, fun k => ν2 (ρ k), s1.trans s2, fun k hk => by show ν2 (ρ k) = ν k; rw [hle.id k hk, k2 k hk, k1 k hk], by
      rw [un_assoc s2.le] at g2; exact g2.le hle, hi, rfl⟩
    refine ⟨⟨_, hinv⟩, ?_⟩
    have := (hmin a2 w2 _ hinv).2
    omega
  | _ => exact Post.trans s1 k1 ⟨Z2, ν2, σ2, s2, k2, g2, q2⟩
end rules
end Go.Proofs.Ytbcghiagomkadaa.Cal
namespace Go.Proofs.Ytbcghiagomkadaa.Cal
open Go
def put (e : Env) (d : Nat) (v : AV) : Env := fun s => match Nat.beq s d with | true => v | false => e s
def putO (e : Env) (d : Option Nat) (v : AV) : Env := match d with | some d => put e d v | none => e
def lko (l : List (Nat × Option Blk)) (k : Nat) : Option (Option Blk) :=
  match l with
  | [] => none
  | (k', b) :: t => match Nat.beq k k' with | true => some b | false => lko t k
def updL (rs : Rs) (wr : List (Nat × Option Blk)) : Rs := fun k => match lko wr k with | some b => b | none => rs k
def addK (μ : Nat → Bool) (kn : Option Nat) : Nat → Bool := match kn with | some k => fun x => μ x || Nat.beq x k | none => μ
structure Item where
  dst : Option Nat
  ins : List (Nat × AV)
  val : AV
  rd : List (Nat × Blk)
  wr : List (Nat × Option Blk)
  kn : Option Nat
structure Fits (N : Nat) (it : Item) (σ : St) : Prop where
  ins : ∀ p, p ∈ it.ins → σ.env p.1 = p.2
  rd : ∀ p, p ∈ it.rd → σ.rs p.1 = some p.2
  kn : ∀ k, it.kn = some k → σ.mu k = false
  dst : ∀ d, it.dst = some d → d < N
def Item.app (it : Item) (σ : St) : St := { mu := addK σ.mu it.kn, env := putO σ.env it.dst it.val, rs := updL σ.rs it.wr, ms := σ.ms }
def runsTo (N : Nat) (its : Nat → Item) : List Nat → St → St → Prop
  | [], s, s' => s = s'
  | i :: L, s, s' => Fits N (its i) s ∧ runsTo N its L ((its i).app s) s'
/-- An operation does what its item says, from whatever state the item fits. -/
def OpRun (P : Program) (ro : Option Nat) (N : Nat) (ops : Array Oper) (o : Oper) (it : Item) : Prop :=
  ∀ n K Z ν w a σ, Good K Z N w ν σ a → Fits N it σ → ∀ (next : Act → World → Prop) (Q : Exit → Act → World → Prop),
    (∀ Z' ν' w' a', Step K Z w Z' w' → (∀ k, σ.mu k = true → ν' k = ν k) → Good (un K Z') Z' N w' ν' (it.app σ) a' → next a' w') →
    (if Region.wanted o (yielded ops a.tmps) then o.wpIn (FF ro) n P a w next Q else (∀ f, o.about P w a.eval = some f → (FF ro).fn f) ∧ next (a.put o.dst undef) w)
section
variable {P : Program} {ro : Option Nat} {N κ : Nat} {ops : Array Oper} {its : Nat → Item}
/-- κ keys are among those in use. -/
def Holds (κ : Nat) (σ : St) : Prop := ∀ k, k < κ → σ.mu k = true
theorem Zfp {it : Item} {σ : St} (h : Holds κ σ) : Holds κ (it.app σ) := by
  intro k hk
  show addK σ.mu it.kn k = true
  cases it.kn with
  | none => exact h k hk
  | some j => simp [addK, h k hk]
theorem run_text {Q : Exit → St → Prop} {σ' : St} (hq : Q .normal σ') : ∀ (L : List Nat) (σ : St), (∀ i, i ∈ L → ∃ o, ops[i]? = some o ∧ OpRun P ro N ops o (its i)) → Holds κ σ → runsTo N its L σ σ' →
    ∀ n K Z ν w a, Good K Z N w ν σ a → wpOpsIn (FF ro) n P ops (Post N κ K Z w ν Q) L a w := by
  intro L
  induction L with
  | nil =>
    intro σ _ _ hr n K Z ν w a hg
    obtain rfl : σ = σ' := hr
    exact Zcc hg hq
  | cons i L ih =>
    intro σ hop hh hr n K Z ν w a hg
    obtain ⟨o, ho, hrun⟩ := hop i (List.mem_cons_self)
    obtain ⟨hf, hr⟩ := hr
    rw [wpOpsIn_cons]
    unfold wpOpIn
    simp only [ho]
    refine hrun n K Z ν w a σ hg hf _ _ ?_
    intro Z1 ν1 w1 a1 hs hν hg1
    have := ih ((its i).app σ) (fun j hj => hop j (List.mem_cons_of_mem _ hj)) (Zfp hh) hr n _ _ ν1 w1 a1 hg1
    exact wpOpsIn_mono' this fun e a' w' hp => hp.trans hs (fun k hk => hν k (hh k hk))
where
  wpOpsIn_mono' {F : Fence} {n : Nat} {P : Program} {ops : Array Oper} {Q Q' : Exit → Act → World → Prop} {L : List Nat} {a : Act} {w : World} (h : wpOpsIn F n P ops Q L a w) (hq : ∀ e a w, Q e a w → Q' e a w) : wpOpsIn F n P ops Q' L a w := by
    induction L generalizing a w with
    | nil => exact hq _ _ _ h
    | cons i L ih =>
      rw [wpOpsIn_cons] at h ⊢
      unfold wpOpIn at h ⊢
      cases ho : ops[i]? with
      | none => simp only [ho] at h ⊢; exact ih h
      | some o =>
        simp only [ho] at h ⊢
        split
        · rename_i hw
          simp only [hw, if_true] at h
          refine ⟨h.1, ?_⟩
          have h2 := h.2
          generalize (o.semAt F.round a.eval).run P w = r at *
          cases r with
          | ok x w' =>
            cases x <;> simp only [Oper.uponIn] at h2 ⊢ <;>
              first
                | exact ih h2
                | exact ⟨h2.1, CallsIn.mono h2.2 (fun e w'' he => by cases e <;> first | exact ih he | exact hq _ _ _ he | (obtain ⟨a0, w0, hl⟩ := he; exact ⟨a0, w0, hq _ _ _ hl⟩))⟩
                | exact ⟨h2.1, RowsIn.mono h2.2 (fun _ _ he => ih he)⟩
                | exact ⟨h2.1, RoundIn.mono h2.2 (fun e w'' he => by cases e <;> first | exact ih he | exact hq _ _ _ he | (obtain ⟨a0, w0, hl⟩ := he; exact ⟨a0, w0, hq _ _ _ hl⟩))⟩
          | halt x w' => cases x <;> simp only [Oper.uponIn] at h2 ⊢ <;> first | exact hq _ _ _ h2 | exact h2
        · rename_i hw
          rw [if_neg hw] at h
          exact ⟨h.1, ih h.2⟩
/-! ### Orders -/

structure Apart (a b : Item) : Prop where
  d : ∀ d d', a.dst = some d → b.dst = some d' → d ≠ d'
  da : ∀ d, a.dst = some d → ∀ p, p ∈ b.ins → p.1 ≠ d
  db : ∀ d, b.dst = some d → ∀ p, p ∈ a.ins → p.1 ≠ d
  wa : ∀ p, p ∈ a.wr → (∀ q, q ∈ b.rd → q.1 ≠ p.1) ∧ (∀ q, q ∈ b.wr → q.1 ≠ p.1)
  wb : ∀ p, p ∈ b.wr → ∀ q, q ∈ a.rd → q.1 ≠ p.1
  kn : ∀ k k', a.kn = some k → b.kn = some k' → k ≠ k'
theorem Zdy {l : List (Nat × Option Blk)} {k : Nat} (h : ∀ p, p ∈ l → p.1 ≠ k) : lko l k = none := by
  induction l with
  | nil => rfl
  | cons p t ih =>
    obtain ⟨k', b⟩ := p
    have hne : Nat.beq k k' = false := by
      have := h (k', b) List.mem_cons_self
      cases hb : Nat.beq k k' with
      | false => rfl
      | true => exact absurd (Nat.eq_of_beq_eq_true hb).symm this
    simp only [lko, hne]
    exact ih fun p hp => h p (List.mem_cons_of_mem _ hp)
theorem Zfh {e : Env} {d s : Nat} {v : AV} (h : s ≠ d) : put e d v s = e s := by
  have hne : Nat.beq s d = false := by
    cases hb : Nat.beq s d with
    | false => rfl
    | true => exact absurd (Nat.eq_of_beq_eq_true hb) h
  simp [put, hne]
theorem Zgw {e : Env} {d : Nat} {v : AV} : put e d v d = v := by simp [put, Nat.beq_refl]
theorem putO_ne {e : Env} {d : Option Nat} {s : Nat} {v : AV} (h : ∀ x, d = some x → s ≠ x) : putO e d v s = e s := by
  cases d with
  | none => rfl
  | some d => exact Zfh (h d rfl)
theorem put_comm {e : Env} {d d' : Nat} {v v' : AV} (h : d ≠ d') : put (put e d v) d' v' = put (put e d' v') d v := by
  funext s
  by_cases h1 : s = d'
  · subst h1; rw [Zgw, Zfh (Ne.symm h), Zgw]
  · rw [Zfh h1]
    by_cases h2 : s = d
    · subst h2; rw [Zgw, Zgw]
    · rw [Zfh h2, Zfh h2, Zfh h1]
theorem updL_comm {rs : Rs} {a b : List (Nat × Option Blk)} (h : ∀ p, p ∈ a → ∀ q, q ∈ b → q.1 ≠ p.1) : updL (updL rs a) b = updL (updL rs b) a := by
  funext k
  simp only [updL]
  cases ha : lko a k with
  | none => cases hb : lko b k <;> rfl
  | some x =>
    have : lko b k = none := by
      have hmem : ∃ p, p ∈ a ∧ p.1 = k := by
        induction a with
        | nil => cases ha
        | cons p t ih =>
          obtain ⟨k', y⟩ := p
          by_cases hk : k' = k
          · exact ⟨_, List.mem_cons_self, hk⟩
          · have hne : Nat.beq k k' = false := by
              cases hb : Nat.beq k k' with
              | false => rfl
              | true => exact absurd (Nat.eq_of_beq_eq_true hb).symm hk
            simp only [lko, hne] at ha
            obtain ⟨p, hp, e⟩ := ih (fun p hp => h p (List.mem_cons_of_mem _ hp)) ha
            exact ⟨p, List.mem_cons_of_mem _ hp, e⟩
      obtain ⟨p, hp, e⟩ := hmem
      exact Zdy fun q hq => e ▸ h p hp q hq
    simp [this]
theorem addK_comm {μ : Nat → Bool} {a b : Option Nat} : addK (addK μ a) b = addK (addK μ b) a := by
  cases a with
  | none => cases b <;> rfl
  | some x => cases b with
    | none => rfl
    | some y => funext k; show (μ k || Nat.beq k x || Nat.beq k y) = (μ k || Nat.beq k y || Nat.beq k x); cases μ k <;> cases Nat.beq k x <;> cases Nat.beq k y <;> rfl
theorem swap_items {a b : Item} {σ : St} (hi : Apart a b) (fa : Fits N a σ) (fb : Fits N b (a.app σ)) : Fits N b σ ∧ Fits N a (b.app σ) ∧ b.app (a.app σ) = a.app (b.app σ) := by
  refine ⟨⟨fun p hp => ?_, fun p hp => ?_, fun k hk => ?_, fb.dst⟩, ⟨fun p hp => ?_, fun p hp => ?_, fun k hk => ?_, fa.dst⟩, ?_⟩
  · rw [← fb.ins p hp]; exact (putO_ne fun x hx => hi.da x hx p hp).symm
  · have := fb.rd p hp
    rwa [show (a.app σ).rs p.1 = σ.rs p.1 from by
      show updL σ.rs a.wr p.1 = _
      simp only [updL]
      rw [Zdy fun q hq => Ne.symm ((hi.wa q hq).1 p hp)]] at this
  · have := fb.kn k hk
    have h : addK σ.mu a.kn k = false := this
    cases hka : a.kn with
    | none => rw [hka] at h; exact h
    | some j => rw [hka] at h; simp [addK] at h; exact h.1
  · rw [← fa.ins p hp]; exact putO_ne fun x hx => hi.db x hx p hp
  · rw [← fa.rd p hp]
    show updL σ.rs b.wr p.1 = _
    simp only [updL]
    rw [Zdy fun q hq => Ne.symm (hi.wb q hq p hp)]
  · have h1 := fa.kn k hk
    show addK σ.mu b.kn k = false
    cases hkb : b.kn with
    | none => exact h1
    | some j =>
      have hne : Nat.beq k j = false := by
        cases hb : Nat.beq k j with
        | false => rfl
        | true => exact absurd (Nat.eq_of_beq_eq_true hb) (hi.kn k j hk hkb)
      simp [addK, h1, hne]
  · show St.mk _ _ _ _ = St.mk _ _ _ _
    have e1 : addK (addK σ.mu a.kn) b.kn = addK (addK σ.mu b.kn) a.kn := addK_comm
    have e2 : putO (putO σ.env a.dst a.val) b.dst b.val = putO (putO σ.env b.dst b.val) a.dst a.val := by
      cases had : a.dst with
      | none => rfl
      | some d => cases hbd : b.dst with
        | none => rfl
        | some d' => exact put_comm (hi.d d d' had hbd)
    have e3 : updL (updL σ.rs a.wr) b.wr = updL (updL σ.rs b.wr) a.wr := updL_comm fun p hp q hq => (hi.wa p hp).2 q hq
    simp only [Item.app, e1, e2, e3]
theorem pull_front {i : Nat} {B : List Nat} : ∀ (A : List Nat) (σ σ' : St), (∀ j, j ∈ A → Apart (its j) (its i)) → runsTo N its (A ++ i :: B) σ σ' → Fits N (its i) σ ∧ runsTo N its (A ++ B) ((its i).app σ) σ' := by
  intro A
  induction A with
  | nil => intro σ σ' _ h; exact h
  | cons j A ih =>
    intro σ σ' hi h
    obtain ⟨fj, h⟩ := h
    obtain ⟨f1, h1⟩ := ih _ _ (fun x hx => hi x (List.mem_cons_of_mem _ hx)) h
    obtain ⟨g1, g2, g3⟩ := swap_items (hi j List.mem_cons_self) fj f1
    exact ⟨g1, g2, by rw [← g3]; exact h1⟩
/-- Which operations come ahead of each, by the edges. -/
def predsOf (o : Oper) : List Nat := (o.after.toList.filter fun e => Region.binds .any e).map (·.on)
def ddL : List Nat → List Nat
  | [] => []
  | a :: t => bif (ddL t).any (fun b => Nat.beq a b) then ddL t else a :: ddL t
def ancs : List Oper → List (List Nat) → List (List Nat)
  | [], acc => acc
  | o :: t, acc => ancs t (acc ++ [ddL (predsOf o ++ (predsOf o).flatMap fun p => acc.getD p [])])
def disj (a b : List Nat) : Bool := a.all fun x => b.all fun y => !(Nat.beq x y)
def apartB (a b : Item) : Bool :=
  disj a.dst.toList b.dst.toList && disj a.dst.toList (b.ins.map (·.1)) && disj b.dst.toList (a.ins.map (·.1)) &&
  disj (a.wr.map (·.1)) (b.rd.map (·.1)) && disj (a.wr.map (·.1)) (b.wr.map (·.1)) && disj (b.wr.map (·.1)) (a.rd.map (·.1)) && disj a.kn.toList b.kn.toList
theorem Zeb {a b : List Nat} (h : disj a b = true) {x y : Nat} (hx : x ∈ a) (hy : y ∈ b) : x ≠ y := by
  simp only [disj, List.all_eq_true] at h
  have := h x hx y hy
  intro e
  subst e
  simp [Nat.beq_refl] at this
theorem apart_of {a b : Item} (h : apartB a b = true) : Apart a b := by
  simp only [apartB, Bool.and_eq_true] at h
  obtain ⟨⟨⟨⟨⟨⟨h1, h2⟩, h3⟩, h4⟩, h5⟩, h6⟩, h7⟩ := h
  refine ⟨fun d d' hd hd' => Zeb h1 (by simp [hd]) (by simp [hd']), fun d hd p hp => Ne.symm (Zeb h2 (by simp [hd]) (List.mem_map_of_mem hp)), fun d hd p hp => Ne.symm (Zeb h3 (by simp [hd]) (List.mem_map_of_mem hp)),
    fun p hp => ⟨fun q hq => Ne.symm (Zeb h4 (List.mem_map_of_mem hp) (List.mem_map_of_mem hq)), fun q hq => Ne.symm (Zeb h5 (List.mem_map_of_mem hp) (List.mem_map_of_mem hq))⟩,
    fun p hp q hq => Ne.symm (Zeb h6 (List.mem_map_of_mem hp) (List.mem_map_of_mem hq)), fun k k' hk hk' => Zeb h7 (by simp [hk]) (by simp [hk'])⟩
def itemAt (l : List Item) (i : Nat) : Item := l.getD i ⟨none, [], .any, [], [], none⟩
/-- The check: every two that no edge orders lie apart. -/
def drawOK (ops : List Oper) (l : List Item) : Bool :=
  let A := ancs ops []
  (List.range ops.length).all fun i =>
    ((A.getD i []).all fun j => match ops[i]? with | some o => (predsOf o).any (fun p => Nat.beq p j || ((A.getD p []).any fun q => Nat.beq q j)) && Nat.blt j i | none => false) &&
    (match ops[i]? with | some o => (predsOf o).all fun p => Nat.blt p i | none => false) &&
    (List.range i).all fun j => ((A.getD i []).any fun q => Nat.beq q j) || apartB (itemAt l j) (itemAt l i)
theorem run_any {Q : Exit → St → Prop} {σ' : St} (l : List Item) (hc : drawOK ops.toList l = true) (hop : ∀ i, i < ops.size → ∃ o, ops[i]? = some o ∧ OpRun P ro N ops o (itemAt l i)) (hq : Q .normal σ') :
    ∀ (fuel : Nat) (listed : Array Bool) (L : List Nat) (σ : St), listed.size = ops.size → L.length ≤ fuel → (∀ i, i ∈ L ↔ i < ops.size ∧ listed.getD i true = false) → L.Pairwise (· < ·) →
      (∀ i o, ops[i]? = some o → listed.getD i true = true → ∀ p, p ∈ predsOf o → listed.getD p true = true) →
      Holds κ σ → runsTo N (itemAt l) L σ σ' → ∀ n K Z ν w a, Good K Z N w ν σ a → wpAnyIn (FF ro) n P .any ops (Post N κ K Z w ν Q) fuel listed a w := by
  have hchk : ∀ i, i < ops.size → ∀ o, ops[i]? = some o → (∀ j, j ∈ (ancs ops.toList []).getD i [] → (∃ p, p ∈ predsOf o ∧ (p = j ∨ j ∈ (ancs ops.toList []).getD p [])) ∧ j < i) ∧ (∀ p, p ∈ predsOf o → p < i) ∧
      ∀ j, j < i → j ∈ (ancs ops.toList []).getD i [] ∨ Apart (itemAt l j) (itemAt l i) := by
    intro i hi o ho
    simp only [drawOK, List.all_eq_true, List.mem_range, Bool.and_eq_true, Array.length_toList] at hc
    obtain ⟨⟨h1, h2⟩, h3⟩ := hc i hi
    have ho' : ops.toList[i]? = some o := by simpa using ho
    rw [ho'] at h1 h2
    simp only [List.all_eq_true, Nat.blt_eq] at h2
    refine ⟨fun j hj => ?_, h2, fun j hj => ?_⟩
    · have := h1 j hj
      simp only [Bool.and_eq_true, List.any_eq_true, Bool.or_eq_true, Nat.blt_eq] at this
      obtain ⟨⟨p, hp, hpj⟩, hlt⟩ := this
      refine ⟨⟨p, hp, ?_⟩, hlt⟩
      rcases hpj with h | ⟨q, hq, h⟩
      · exact .inl (Nat.eq_of_beq_eq_true h)
      · exact .inr (Nat.eq_of_beq_eq_true h ▸ hq)
    · have := h3 j hj
      simp only [Bool.or_eq_true, List.any_eq_true] at this
      rcases this with ⟨q, hq, h⟩ | h
      · exact .inl (Nat.eq_of_beq_eq_true h ▸ hq)
      · exact .inr (apart_of h)
  have Zdh : ∀ (listed : Array Bool), listed.size = ops.size → (∀ i o, ops[i]? = some o → listed.getD i true = true → ∀ p, p ∈ predsOf o → listed.getD p true = true) →
      ∀ i, i < ops.size → ∀ o, ops[i]? = some o → (∀ p, p ∈ predsOf o → listed.getD p true = true) → ∀ j, j ∈ (ancs ops.toList []).getD i [] → listed.getD j true = true := by
    intro listed hsz hcl i
    induction i using Nat.strongRecOn with
    | _ i ih =>
      intro hi o ho hp j hj
      obtain ⟨⟨p, hpm, hpj⟩, hlt⟩ := (hchk i hi o ho).1 j hj
      rcases hpj with rfl | hpj
      · exact hp p hpm
      · have hpi := (hchk i hi o ho).2.1 p hpm
        have hps : p < ops.size := by omega
        obtain ⟨o', ho', _⟩ := hop p hps
        exact ih p hpi hps o' ho' (hcl p o' ho' (hp p hpm)) j hpj
  have Zct : ∀ (listed : Array Bool) i, i ∈ Region.ready .any ops listed → i < ops.size ∧ listed.getD i true = false ∧ ∀ o, ops[i]? = some o → ∀ p, p ∈ predsOf o → listed.getD p true = true := by
    intro listed i hi
    simp only [Region.ready, List.mem_filter, List.mem_range, Bool.and_eq_true, Bool.not_eq_true'] at hi
    obtain ⟨h1, h2, h3⟩ := hi
    refine ⟨h1, h2, fun o ho p hp => ?_⟩
    rw [ho] at h3
    simp only [Option.map_some, Option.getD_some] at h3
    simp only [predsOf, List.mem_map, List.mem_filter] at hp
    obtain ⟨e, ⟨he, hb⟩, rfl⟩ := hp
    have := (Array.all_eq_true_iff_forall_mem.1 h3) e (by simpa using he)
    rw [hb] at this
    simp only [Bool.not_true, Bool.false_or] at this
    cases hg : listed[e.on]? with
    | none => simp [Array.getD_eq_getD_getElem?, hg]
    | some x => simp [Array.getD_eq_getD_getElem?, hg] at this ⊢; exact this
  have Zf9 : ∀ (listed : Array Bool) i o, ops[i]? = some o → listed.getD i true = false → (∀ p, p ∈ predsOf o → p < listed.size ∧ listed.getD p true = true) → i ∈ Region.ready .any ops listed := by
    intro listed i o ho hl hp
    have hi : i < ops.size := (Array.getElem?_eq_some_iff.1 ho).1
    simp only [Region.ready, List.mem_filter, List.mem_range, Bool.and_eq_true, Bool.not_eq_true']
    refine ⟨hi, hl, ?_⟩
    rw [ho]
    simp only [Option.map_some, Option.getD_some]
    refine Array.all_eq_true_iff_forall_mem.2 fun e he => ?_
    cases hb : Region.binds .any e with
    | false => rfl
    | true =>
      obtain ⟨h1, h2⟩ := hp e.on (List.mem_map.2 ⟨e, List.mem_filter.2 ⟨by simpa using he, hb⟩, rfl⟩)
      simp [Array.getD_eq_getD_getElem?, Array.getElem?_eq_getElem h1] at h2 ⊢
      exact h2
  have Zdk : ∀ (listed : Array Bool) i j, i < listed.size → ((listed.setIfInBounds i true).getD j true = true ↔ (j = i ∨ listed.getD j true = true)) := by
    intro listed i j hi
    simp only [Array.getD_eq_getD_getElem?, Array.getElem?_setIfInBounds]
    by_cases h : i = j
    · subst h; simp [hi]
    · simp [h, Ne.symm h]
  intro fuel
  induction fuel with
  | zero =>
    intro listed L σ hsz hlen hL hpw hcl hh hr n K Z ν w a hg
    obtain rfl : L = [] := List.eq_nil_of_length_eq_zero (by omega)
    obtain rfl : σ = σ' := hr
    refine ⟨?_, Zcc hg hq⟩
    refine List.eq_nil_iff_forall_not_mem.2 fun i hi => ?_
    obtain ⟨h1, h2, _⟩ := Zct listed i hi
    exact absurd ((hL i).2 ⟨h1, h2⟩) (by simp)
  | succ fuel ih =>
    intro listed L σ hsz hlen hL hpw hcl hh hr n K Z ν w a hg
    refine ⟨fun hnil => ?_, fun i hi => ?_⟩
    · cases L with
      | nil => obtain rfl : σ = σ' := hr; exact Zcc hg hq
      | cons i L =>
        exfalso
        obtain ⟨hi, hl⟩ := (hL i).1 List.mem_cons_self
        obtain ⟨o, ho, _⟩ := hop i hi
        have : i ∈ Region.ready .any ops listed := Zf9 listed i o ho hl fun p hp => by
          have hpi := (hchk i hi o ho).2.1 p hp
          refine ⟨by omega, ?_⟩
          cases hpl : listed.getD p true with
          | true => rfl
          | false =>
            have hmem := (hL p).2 ⟨by omega, hpl⟩
            rcases List.mem_cons.1 hmem with rfl | hmem
            · omega
            · have := List.rel_of_pairwise_cons hpw hmem; omega
        rw [hnil] at this
        cases this
    · obtain ⟨h1, h2, h3⟩ := Zct listed i hi
      obtain ⟨o, ho, hrun⟩ := hop i h1
      have hiL := (hL i).2 ⟨h1, h2⟩
      obtain ⟨A, B, rfl⟩ := List.append_of_mem hiL
      have hA : ∀ j, j ∈ A → j < i := fun j hj => by
        rw [List.pairwise_append] at hpw
        exact hpw.2.2 j hj i List.mem_cons_self
      have hap : ∀ j, j ∈ A → Apart (itemAt l j) (itemAt l i) := by
        intro j hj
        rcases (hchk i h1 o ho).2.2 j (hA j hj) with h | h
        · have hd := Zdh listed hsz hcl i h1 o ho (h3 o ho) j h
          have := ((hL j).1 (List.mem_append_left _ hj)).2
          rw [hd] at this
          cases this
        · exact h
      obtain ⟨f1, r1⟩ := pull_front A σ σ' hap hr
      unfold wpOpIn
      simp only [ho]
      refine hrun n K Z ν w a σ hg f1 _ _ ?_
      intro Z1 ν1 w1 a1 hs hν hg1
      have hi2 : i < listed.size := by omega
      have hnd : i ∉ A ∧ i ∉ B := by
        have hne : (A ++ i :: B).Pairwise (· ≠ ·) := hpw.imp fun h => Nat.ne_of_lt h
        rw [List.pairwise_append] at hne
        exact ⟨fun h => hne.2.2 i h i List.mem_cons_self rfl, fun h => List.rel_of_pairwise_cons hne.2.1 h rfl⟩
      have := ih (listed.setIfInBounds i true) (A ++ B) _ (by simpa using hsz) (by simp at hlen ⊢; omega) (fun j => ?_) ?_ ?_ (Zfp hh) r1 n _ _ ν1 w1 a1 hg1
      · exact wpAnyIn_mono' this fun e a' w' hp => hp.trans hs (fun k hk => hν k (hh k hk))
      · have e : (listed.setIfInBounds i true).getD j true = false ↔ (j ≠ i ∧ listed.getD j true = false) := by
          have := Zdk listed i j hi2
          cases h : (listed.setIfInBounds i true).getD j true with
          | true =>
            simp only [h, true_iff] at this
            refine ⟨fun hh => (by cases hh), fun hh => ?_⟩
            rcases this with e | e
            · exact absurd e hh.1
            · rw [e] at hh; exact absurd hh.2 (by simp)
          | false =>
            rw [h] at this
            simp only [Bool.false_eq_true, false_iff, not_or] at this
            exact ⟨fun _ => ⟨this.1, by cases hx : listed.getD j true with | false => rfl | true => exact absurd hx this.2⟩, fun _ => rfl⟩
        rw [e]
        constructor
        · intro hj
          have hj' : j ∈ A ++ i :: B := by
            rcases List.mem_append.1 hj with h | h
            · exact List.mem_append_left _ h
            · exact List.mem_append_right _ (List.mem_cons_of_mem _ h)
          obtain ⟨q1, q2⟩ := (hL j).1 hj'
          refine ⟨q1, ?_, q2⟩
          rintro rfl
          rcases List.mem_append.1 hj with h | h
          · exact hnd.1 h
          · exact hnd.2 h
        · rintro ⟨q1, q2, q3⟩
          have := (hL j).2 ⟨q1, q3⟩
          rcases List.mem_append.1 this with h | h
          · exact List.mem_append_left _ h
          · rcases List.mem_cons.1 h with h | h
            · exact absurd h q2
            · exact List.mem_append_right _ h
      · exact hpw.sublist (List.sublist_append_left A (i :: B) |>.trans (List.Sublist.refl _) |> fun _ => List.Sublist.append (List.Sublist.refl A) (List.sublist_cons_self i B))
      · intro j oj hoj hlj p hp
        rw [Zdk listed i p hi2]
        rcases (Zdk listed i j hi2).1 hlj with rfl | h
        · exact .inr (h3 oj hoj p hp)
        · exact .inr (hcl j oj hoj h p hp)
where
  wpAnyIn_mono' {F : Fence} {n : Nat} {P : Program} {md : Region.Mode} {ops : Array Oper} {Q Q' : Exit → Act → World → Prop} {fuel : Nat} {listed : Array Bool} {a : Act} {w : World} (h : wpAnyIn F n P md ops Q fuel listed a w) (hq : ∀ e a w, Q e a w → Q' e a w) : wpAnyIn F n P md ops Q' fuel listed a w := by
    induction fuel generalizing listed a w with
    | zero => exact ⟨h.1, hq _ _ _ h.2⟩
    | succ fuel ih =>
      refine ⟨fun hr => hq _ _ _ (h.1 hr), fun i hi => ?_⟩
      have h := h.2 i hi
      unfold wpOpIn at h ⊢
      cases ho : ops[i]? with
      | none => simp only [ho] at h ⊢; exact ih h
      | some o =>
        simp only [ho] at h ⊢
        split
        · rename_i hw
          simp only [hw, if_true] at h
          refine ⟨h.1, ?_⟩
          have h2 := h.2
          generalize (o.semAt F.round a.eval).run P w = r at *
          cases r with
          | ok x w' =>
            cases x <;> simp only [Oper.uponIn] at h2 ⊢ <;>
              first
                | exact ih h2
                | exact ⟨h2.1, CallsIn.mono h2.2 (fun e w'' he => by cases e <;> first | exact ih he | exact hq _ _ _ he | (obtain ⟨a0, w0, hl⟩ := he; exact ⟨a0, w0, hq _ _ _ hl⟩))⟩
                | exact ⟨h2.1, RowsIn.mono h2.2 (fun _ _ he => ih he)⟩
                | exact ⟨h2.1, RoundIn.mono h2.2 (fun e w'' he => by cases e <;> first | exact ih he | exact hq _ _ _ he | (obtain ⟨a0, w0, hl⟩ := he; exact ⟨a0, w0, hq _ _ _ hl⟩))⟩
          | halt x w' => cases x <;> simp only [Oper.uponIn] at h2 ⊢ <;> first | exact hq _ _ _ h2 | exact h2
        · rename_i hw
          rw [if_neg hw] at h
          exact ⟨h.1, ih h.2⟩
end
end Go.Proofs.Ytbcghiagomkadaa.Cal
