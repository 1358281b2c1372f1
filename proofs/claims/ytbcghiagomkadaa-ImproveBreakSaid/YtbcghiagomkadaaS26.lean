/- Own texts of the proof, merged, in order. -/
import Derived.Test.YtbcghiagomkadaaS25
set_option linter.unusedVariables false
set_option linter.unusedSimpArgs false
namespace Go.Proofs.Ytbcghiagomkadaa.Cal
open Go Pl
def badS : Spec
  | [.agg (.cons (.roI o) (.cons (.roI p) (.cons (.roII x) (.cons (.int .i64 pl) (.cons (.roI c) .nil)))))] => some ⟨True, .fn 52 (.cons (.rop (.agg (.cons (.roI o) (.cons (.roI p) (.cons (.roII x) (.cons (.int .i64 pl) (.cons (.roI c) .nil))))))) .nil), none⟩
  | _ => none
set_option maxRecDepth 4000 in
set_option maxHeartbeats 4000000 in
theorem bad_ok : FSpec Try.prog 39 badS := by
  refine Zba htb (fn := Try.f39) (by kernel_rfl) (by kernel_rfl) rfl (fun args r hS => ?_) (fun args r hS hob hl => ?_)
  · unfold badS at hS; split at hS <;> first | (cases hS; done) | (cases hS; exact Nat.le_of_ble_eq_true rfl)
  unfold badS at hS
  split at hS
  case h_2 => cases hS
  rename_i o p x pl c
  simp only [Option.some.injEq] at hS
  subst hS
  simp only [lenP, mkL, lim] at hl
  dsimp only at hob
  repeat' first
    | with_reducible first | refine Zas ?_ | refine Zao ?_ | refine Zac ?_ | refine Zad ?_ | refine Zai ?_ | refine Zaq ?_ | refine Zah ?_ | refine Zak ?_ | refine Zar ?_ | refine Zat ?_ | refine Zap ?_ | refine Zam ?_ | refine Zaa ?_ | refine Zae ?_ | refine Zab ?_ | refine Zal ?_
    | ((with_reducible refine Zaj ?_ ?_); exact rfl)
    | ((with_reducible refine Zau ?_); refine Zan rfl ?_ ?_ <;> intro hb <;> (try simp only [zH] at hb))
    | ((with_reducible refine Za0 ?_); (first | refine Zaf htb hmz noSp (fun _ => false) rfl rfl ?_ | refine Zag hmo htb hmz noSp (fun _ => false) rfl rfl (by kernel_rfl) ?_); intro m' e' l' ob h; simp only [zE0, zE1, zE2, zE3, zE4, zE5, evp, evx, ev1, evLoad, evStore, evBin, isBoolK, forall_const, z38, tb, Nat.reduceAdd, Nat.reduceSub, Nat.reduceMul, Nat.reduceEqDiff, Nat.reduceLeDiff, Nat.reduceLT, Nat.reduceBEq, Nat.reduceBNe, ↓reduceIte, reduceIte] at h; obtain ⟨rfl, rfl, rfl, rfl⟩ := h; refine ⟨?_, ?_⟩)
    | ((with_reducible refine Ob.mk ?_); first | exact trivial | (intros; omega) | ((repeat' first | apply And.intro | (intro hg; have hg' := hg; try simp only [zH] at hg')) <;> first | assumption | omega | (simp only [zH]; omega)))
  refine Zay rfl rfl (Zaw rfl ?_ rfl)
  rfl
open Classical in
/-- The positions through which there is a bad loop. -/
noncomputable def bdK (o p : List Int) (x : List (List Int)) (pl : Int) (c : List Int) : List Bool := (List.range o.length).map fun v => decide (p.getD v 0 % 2 ≠ pl ∧ Cyc (fun a b => b ∈ nxN o x pl c a) (fun v => p.getD v 0) v)
theorem Zgp {o p : List Int} {x : List (List Int)} {pl : Int} {c : List Int} {v : Nat} (hv : v < o.length) : (bdK o p x pl c).getD v false = true ↔ p.getD v 0 % 2 ≠ pl ∧ Cyc (fun a b => b ∈ nxN o x pl c a) (fun v => p.getD v 0) v := by
  simp [bdK, List.getD_eq_getElem?_getD, hv]
/-- The loops that come with a position. -/
def bdW (o p : List Int) (x : List (List Int)) (pl : Int) (c : List Int) (v : Nat) (li : List Int) : Prop := ∃ (L : List (Nat × Nat)) (r : List Nat), li = castL r ∧ RE (nxN o x pl c) (fun w => p.getD w 0 ≤ p.getD v 0) o.length v L ∧ BkR (nxN o x pl c) L v v r
set_option maxRecDepth 4000 in
set_option maxHeartbeats 4000000 in
theorem bad11_fg {o p c : List Int} {x : List (List Int)} {pl q : Int} {w : Nat} (hw : w < p.length) : FG Try.prog 53 [.int .i64 w, .rop (.agg (.cons (.roI o) (.cons (.roI p) (.cons (.roII x) (.cons (.int .i64 pl) (.cons (.roI c) .nil)))))), .rop (.int .i64 q)] [] 0 fun g => g = ⟨0, .bool (decide (p.getD w 0 ≤ q)), []⟩ := by
  refine Zd1 htb (fn := Try.f53) (by kernel_rfl) (by kernel_rfl) rfl (Nat.le_of_ble_eq_true rfl) fun hl => ?_
  simp only [lenP, mkL, lim] at hl
  repeat' first
    | with_reducible first | refine Zas ?_ | refine Zao ?_ | refine Zac ?_ | refine Zad ?_ | refine Zai ?_ | refine Zaq ?_ | refine Zah ?_ | refine Zak ?_ | refine Zar ?_ | refine Zat ?_ | refine Zap ?_ | refine Zam ?_ | refine Zaa ?_ | refine Zae ?_ | refine Zab ?_ | refine Zal ?_
    | ((with_reducible refine Zaj ?_ ?_); exact rfl)
    | ((with_reducible refine Zau ?_); refine Zan rfl ?_ ?_ <;> intro hb <;> (try simp only [zH] at hb))
    | ((with_reducible refine Za0 ?_); (first | refine Zaf htb hmz noSp (fun _ => false) rfl rfl ?_ | refine Zag hmo htb hmz noSp (fun _ => false) rfl rfl (by kernel_rfl) ?_); intro m' e' l' ob h; simp only [zE0, zE1, zE2, zE3, zE4, zE5, evp, evx, ev1, evLoad, evStore, evBin, isBoolK, forall_const, z38, tb, Nat.reduceAdd, Nat.reduceSub, Nat.reduceMul, Nat.reduceEqDiff, Nat.reduceLeDiff, Nat.reduceLT, Nat.reduceBEq, Nat.reduceBNe, ↓reduceIte, reduceIte] at h; obtain ⟨rfl, rfl, rfl, rfl⟩ := h; refine ⟨?_, ?_⟩)
    | ((with_reducible refine Ob.mk ?_); first | exact trivial | (intros; omega) | ((repeat' first | apply And.intro | (intro hg; have hg' := hg; try simp only [zH] at hg')) <;> first | assumption | omega | (simp only [zH]; omega)))
  refine Zay rfl rfl (Zcw (⟨0, .bool (decide (p.getD w 0 ≤ q)), []⟩) ([]) rfl rfl (Zbp rfl) ?_)
  simp only [grR, zE0, zE1, zE2, zE3, zE4, zE5, evp, evx, ev1, evLoad, evStore, evBin, isBoolK, forall_const, z38, tb, Nat.reduceAdd, Nat.reduceSub, Nat.reduceMul, Nat.reduceEqDiff, Nat.reduceLeDiff, Nat.reduceLT, Nat.reduceBEq, Nat.reduceBNe, ↓reduceIte, reduceIte]
structure MbT (τ : Type) where
  i : Nat
  t : τ
set_option maxRecDepth 4000 in
set_option maxHeartbeats 4000000 in
theorem bad1_iter {o p c : List Int} {x : List (List Int)} {pl : Int} (hn : o.length ≤ 20000) (hpl : p.length = o.length) (hp0 : ∀ v, v < o.length → 0 ≤ p.getD v 0) (hxl : x.length = o.length) (hcl : ∀ v, v < o.length → o.getD v 0 = pl → v < c.length)
    (hrow : ∀ v, v < o.length → (nxF ⟨o, p, x⟩ c pl v).length ≤ 64 ∧ ∀ j, j < (nxF ⟨o, p, x⟩ c pl v).length → 0 ≤ (nxF ⟨o, p, x⟩ c pl v).getD j 0 ∧ (nxF ⟨o, p, x⟩ c pl v).getD j 0 < (o.length : Int))
    {τ : Type} (I X : τ → Prop) (ix : τ → Nat) (hI : ∀ t, I t → ix t ≤ (kp (bdK o p x pl c) o.length).length) :
    IterU Try.prog 52 (.rop (.agg (.cons (.roI o) (.cons (.roI p) (.cons (.roII x) (.cons (.int .i64 pl) (.cons (.roI c) .nil))))))) I X (fun t => (((kp (bdK o p x pl c) o.length).getD (ix t) 0 : Nat) : Int)) (fun t li => bdW o p x pl c ((kp (bdK o p x pl c) o.length).getD (ix t) 0) li) (fun t => ix t < (kp (bdK o p x pl c) o.length).length) (fun t t' => ix t' = ix t + 1) (fun t => ix t = 0) (fun t => ix t = (kp (bdK o p x pl c) o.length).length) := by
  intro A hY t0 h0 hi0
  refine Zd1 htb (fn := Try.f52) (by kernel_rfl) (by kernel_rfl) rfl (Nat.le_of_ble_eq_true rfl) fun hl => ?_
  simp only [lenP, mkL, lim] at hl
  repeat' first
    | with_reducible first | refine Zas ?_ | refine Zao ?_ | refine Zac ?_ | refine Zad ?_ | refine Zai ?_ | refine Zaq ?_ | refine Zah ?_ | refine Zak ?_ | refine Zar ?_ | refine Zat ?_ | refine Zap ?_ | refine Zam ?_ | refine Zaa ?_ | refine Zae ?_ | refine Zab ?_ | refine Zal ?_
    | ((with_reducible refine Zaj ?_ ?_); exact rfl)
    | ((with_reducible refine Zau ?_); refine Zan rfl ?_ ?_ <;> intro hb <;> (try simp only [zH] at hb))
    | ((with_reducible refine Za0 ?_); (first | refine Zaf htb hmz noSp (fun _ => false) rfl rfl ?_ | refine Zag hmo htb hmz noSp (fun _ => false) rfl rfl (by kernel_rfl) ?_); intro m' e' l' ob h; simp only [zE0, zE1, zE2, zE3, zE4, zE5, evp, evx, ev1, evLoad, evStore, evBin, isBoolK, forall_const, z38, tb, Nat.reduceAdd, Nat.reduceSub, Nat.reduceMul, Nat.reduceEqDiff, Nat.reduceLeDiff, Nat.reduceLT, Nat.reduceBEq, Nat.reduceBNe, ↓reduceIte, reduceIte] at h; obtain ⟨rfl, rfl, rfl, rfl⟩ := h; refine ⟨?_, ?_⟩)
    | ((with_reducible refine Ob.mk ?_); first | exact trivial | (intros; omega) | ((repeat' first | apply And.intro | (intro hg; have hg' := hg; try simp only [zH] at hg')) <;> first | assumption | omega | (simp only [zH]; omega)))
  have hkl := kp_len (k := bdK o p x pl c) (n := o.length)
  have hbd := fun v (hv : v < o.length) => Zgp (o := o) (p := p) (x := x) (pl := pl) (c := c) hv
  generalize hK : bdK o p x pl c = K at *
  refine Za1 (τ := MbT τ) (fun s => s.i ≤ o.length ∧ I s.t ∧ ix s.t = (kp K s.i).length) (fun s => ⟨7, [(12, .int .i64 s.i), (11, .int .i64 p.length), (10, .roI p), (0, .yld 0), (1, .rop (.agg (.cons (.roI o) (.cons (.roI p) (.cons (.roII x) (.cons (.int .i64 pl) (.cons (.roI c) .nil)))))))], [(1, some (.sem [0] (A true s.t)))], []⟩) (fun s => o.length - s.i) ⟨0, t0⟩ [] ?_ ⟨Nat.zero_le _, h0, hi0⟩ ?_
  · refine ⟨rfl, ?_, ?_⟩ <;> simp only [zE0, zE1, zE2, zE3, zE4, zE5, evp, evx, ev1, evLoad, evStore, evBin, isBoolK, forall_const, z38, tb, Nat.reduceAdd, Nat.reduceSub, Nat.reduceMul, Nat.reduceEqDiff, Nat.reduceLeDiff, Nat.reduceLT, Nat.reduceBEq, Nat.reduceBNe, ↓reduceIte, reduceIte, zI]
    intro k hk
    rw [List.mem_singleton.1 hk]; rfl
  rintro ⟨i, t⟩ ⟨hi, ht, hit⟩
  dsimp only at hi ht hit ⊢
  have hkn : kp K (i + 1) = if K.getD i false = true then kp K i ++ [i] else kp K i := kp_succ
  have hI1 := hI t ht
  have hbd1 := hbd i
  have hp01 := hp0 i
  repeat' first
    | with_reducible first | refine Zas ?_ | refine Zao ?_ | refine Zac ?_ | refine Zad ?_ | refine Zai ?_ | refine Zaq ?_ | refine Zah ?_ | refine Zak ?_ | refine Zar ?_ | refine Zat ?_ | refine Zap ?_ | refine Zam ?_ | refine Zaa ?_ | refine Zae ?_ | refine Zab ?_ | refine Zal ?_
    | ((with_reducible refine Zaj ?_ ?_); exact rfl)
    | ((with_reducible refine Zau ?_); refine Zan rfl ?_ ?_ <;> intro hb <;> (try simp only [zH] at hb))
    | ((with_reducible refine Zav 3 ?_ ?_); (· exact rfl); (with_reducible refine Zav 8 ?_ ?_); (· exact rfl); (first | refine Zaf htb hmz noSp (fun _ => false) rfl rfl ?_ | refine Zag hmo htb hmz noSp (fun _ => false) rfl rfl (by kernel_rfl) ?_); intro m' e' l' ob h; simp only [zE0, zE1, zE2, zE3, zE4, zE5, evp, evx, ev1, evLoad, evStore, evBin, isBoolK, forall_const, z38, tb, Nat.reduceAdd, Nat.reduceSub, Nat.reduceMul, Nat.reduceEqDiff, Nat.reduceLeDiff, Nat.reduceLT, Nat.reduceBEq, Nat.reduceBNe, ↓reduceIte, reduceIte] at h; obtain ⟨rfl, rfl, rfl, rfl⟩ := h; refine ⟨?_, ?_⟩)
    | ((with_reducible refine Ob.mk ?_); first | exact trivial | (intros; omega) | ((repeat' first | apply And.intro | (intro hg; have hg' := hg; try simp only [zH] at hg')) <;> first | assumption | omega | (simp only [zH]; omega)))
  · have hil : i < o.length := by omega
    have hbd1 := hbd1 hil
    have hp01 := hp01 hil
    refine Zbv 11 (.rop (.int .i64 (p.getD i 0))) (by simp only [Zax, Za4, fzE, fzA, fzR, fzB, set1, nbeq, Nat.reduceEqDiff, decide_true, decide_false, ↓reduceIte, reduceIte, cond_true, cond_false, List.take_length, Option.some.injEq]; rfl) (by first | exact rfl | (refine ⟨?_, rfl⟩; first | rfl | (intros; rfl))) (by simp only [Zax, Za4, fzE, fzA, fzR, fzB, set1, nbeq, Nat.reduceEqDiff, decide_true, decide_false, ↓reduceIte, reduceIte, cond_true, cond_false, List.take_length, Option.some.injEq]; rfl) (by simp only [Zax, Za4, fzE, fzA, fzR, fzB, set1, nbeq, Nat.reduceEqDiff, decide_true, decide_false, ↓reduceIte, reduceIte, cond_true, cond_false, List.take_length, Option.some.injEq]; rfl) ?_
    repeat' first
      | with_reducible first | refine Zas ?_ | refine Zao ?_ | refine Zac ?_ | refine Zad ?_ | refine Zai ?_ | refine Zaq ?_ | refine Zah ?_ | refine Zak ?_ | refine Zar ?_ | refine Zat ?_ | refine Zap ?_ | refine Zam ?_ | refine Zaa ?_ | refine Zae ?_ | refine Zab ?_ | refine Zal ?_
      | ((with_reducible refine Zaj ?_ ?_); exact rfl)
      | ((with_reducible refine Zau ?_); refine Zan rfl ?_ ?_ <;> intro hb <;> (try simp only [zH] at hb))
      | ((with_reducible refine Zav 4 ?_ ?_); (· exact rfl); (with_reducible refine Zav 8 ?_ ?_); (· exact rfl); (first | refine Zaf htb hmz noSp (fun _ => false) rfl rfl ?_ | refine Zag hmo htb hmz noSp (fun _ => false) rfl rfl (by kernel_rfl) ?_); intro m' e' l' ob h; simp only [zE0, zE1, zE2, zE3, zE4, zE5, evp, evx, ev1, evLoad, evStore, evBin, isBoolK, forall_const, z38, tb, Nat.reduceAdd, Nat.reduceSub, Nat.reduceMul, Nat.reduceEqDiff, Nat.reduceLeDiff, Nat.reduceLT, Nat.reduceBEq, Nat.reduceBNe, ↓reduceIte, reduceIte] at h; obtain ⟨rfl, rfl, rfl, rfl⟩ := h; refine ⟨?_, ?_⟩)
      | ((with_reducible refine Ob.mk ?_); first | exact trivial | (intros; omega) | ((repeat' first | apply And.intro | (intro hg; have hg' := hg; try simp only [zH] at hg')) <;> first | assumption | omega | (simp only [zH]; omega)))
    · have hkf : K.getD i false = false := by
        cases h : K.getD i false with
        | false => rfl
        | true => exact absurd hb (hbd1.1 h).1
      rw [if_neg (by rw [hkf]; decide)] at hkn
      refine back ⟨i + 1, t⟩ [] ?_ ⟨by dsimp only; omega, ht, ?_⟩ (by dsimp only; omega)
      · refine ⟨rfl, ?_, ?_⟩ <;> simp only [zE0, zE1, zE2, zE3, zE4, zE5, evp, evx, ev1, evLoad, evStore, evBin, isBoolK, forall_const, z38, tb, Nat.reduceAdd, Nat.reduceSub, Nat.reduceMul, Nat.reduceEqDiff, Nat.reduceLeDiff, Nat.reduceLT, Nat.reduceBEq, Nat.reduceBNe, ↓reduceIte, reduceIte, zI]
        intro k hk
        rw [List.mem_singleton.1 hk]; rfl
      · dsimp only
        rw [hit, hkn]
    · have hpm : p.getD i 0 % 2 ≠ pl := hb
      clear hb
      refine Zcg ([_, _, _]) ([_]) rfl rfl ?_
      refine Zaz htb hmz noSp (fun _ => false) rfl rfl rfl ?_; intro m' e' l' ob h; simp only [zE0, zE1, zE2, zE3, zE4, zE5, evp, evx, ev1, evLoad, evStore, evBin, isBoolK, forall_const, z38, tb, Nat.reduceAdd, Nat.reduceSub, Nat.reduceMul, Nat.reduceEqDiff, Nat.reduceLeDiff, Nat.reduceLT, Nat.reduceBEq, Nat.reduceBNe, ↓reduceIte, reduceIte] at h; obtain ⟨rfl, rfl, rfl, rfl⟩ := h; refine ⟨?_, Zac ?_⟩
      · first | ((with_reducible refine Ob.mk ?_); first | exact trivial | (intros; omega) | ((repeat' first | apply And.intro | (intro hg; have hg' := hg; try simp only [zH] at hg')) <;> first | assumption | omega | (simp only [zH]; omega))) | skip
      refine Zbh ([]) (reached_fg (o := o) (p := p) (c := c) (x := x) (pl := pl) (th := fun w => decide (p.getD w 0 ≤ p.getD i 0)) hn hil hxl hcl hrow (fun w hw => bad11_fg (by omega))) rfl rfl rfl rfl rfl rfl rfl rfl rfl (by simp only [rinR, rhoC, zE0, zE1, zE2, zE3, zE4, zE5, evp, evx, ev1, evLoad, evStore, evBin, isBoolK, forall_const, z38, tb, Nat.reduceAdd, Nat.reduceSub, Nat.reduceMul, Nat.reduceEqDiff, Nat.reduceLeDiff, Nat.reduceLT, Nat.reduceBEq, Nat.reduceBNe, ↓reduceIte, reduceIte]) ?_; intro gm gv gr hq m' e' l' h; obtain ⟨L, es, clk, ⟨hE, hM⟩, hq⟩ := hq; simp only [GR.mk.injEq] at hq; obtain ⟨rfl, rfl, rfl⟩ := hq; simp only [rhoC, outR, renR, dels, zE0, zE1, zE2, zE3, zE4, zE5, evp, evx, ev1, evLoad, evStore, evBin, isBoolK, forall_const, z38, tb, Nat.reduceAdd, Nat.reduceSub, Nat.reduceMul, Nat.reduceEqDiff, Nat.reduceLeDiff, Nat.reduceLT, Nat.reduceBEq, Nat.reduceBNe, ↓reduceIte, reduceIte] at h; obtain ⟨rfl, rfl, rfl⟩ := h; refine Zac ?_
      refine Zaz htb hmz noSp (fun _ => false) rfl rfl rfl ?_; intro m' e' l' ob h; simp only [zE0, zE1, zE2, zE3, zE4, zE5, evp, evx, ev1, evLoad, evStore, evBin, isBoolK, forall_const, z38, tb, Nat.reduceAdd, Nat.reduceSub, Nat.reduceMul, Nat.reduceEqDiff, Nat.reduceLeDiff, Nat.reduceLT, Nat.reduceBEq, Nat.reduceBNe, ↓reduceIte, reduceIte] at h; obtain ⟨rfl, rfl, rfl, rfl⟩ := h; refine ⟨?_, ?_⟩
      · first | ((with_reducible refine Ob.mk ?_); first | exact trivial | (intros; omega) | ((repeat' first | apply And.intro | (intro hg; have hg' := hg; try simp only [zH] at hg')) <;> first | assumption | omega | (simp only [zH]; omega))) | skip
      have hth : (fun w => (decide (p.getD w 0 ≤ p.getD i 0)) = true) = fun w => p.getD w 0 ≤ p.getD i 0 := funext fun w => by simp
      rw [hth] at hE
      have hin : i ∈ L.map Prod.fst ↔ Cyc (fun a b => b ∈ nxN o x pl c a) (fun v => p.getD v 0) i := Zhz hE i
      have hhas := hM.has i
      refine Zac ?_
      repeat' first
        | with_reducible first | refine Zas ?_ | refine Zao ?_ | refine Zac ?_ | refine Zad ?_ | refine Zai ?_ | refine Zaq ?_ | refine Zah ?_ | refine Zak ?_ | refine Zar ?_ | refine Zat ?_ | refine Zap ?_ | refine Zam ?_ | refine Zaa ?_ | refine Zae ?_ | refine Zab ?_ | refine Zal ?_
        | ((with_reducible refine Zaj ?_ ?_); exact rfl)
        | ((with_reducible refine Zau ?_); refine Zan rfl ?_ ?_ <;> intro hb <;> (try simp only [zH] at hb))
        | ((with_reducible refine Zav 6 ?_ ?_); (· exact rfl); (first | refine Zaf htb hmz noSp (fun _ => false) rfl rfl ?_ | refine Zag hmo htb hmz noSp (fun _ => false) rfl rfl (by kernel_rfl) ?_); intro m' e' l' ob h; simp only [zE0, zE1, zE2, zE3, zE4, zE5, evp, evx, ev1, evLoad, evStore, evBin, isBoolK, forall_const, z38, tb, Nat.reduceAdd, Nat.reduceSub, Nat.reduceMul, Nat.reduceEqDiff, Nat.reduceLeDiff, Nat.reduceLT, Nat.reduceBEq, Nat.reduceBNe, ↓reduceIte, reduceIte] at h; obtain ⟨rfl, rfl, rfl, rfl⟩ := h; refine ⟨?_, ?_⟩)
        | ((with_reducible refine Ob.mk ?_); first | exact trivial | (intros; omega) | ((repeat' first | apply And.intro | (intro hg; have hg' := hg; try simp only [zH] at hg')) <;> first | assumption | omega | (simp only [zH]; omega)))
      cases hh : mhas (i : Int) es with
      | true =>
        rw [hh] at hhas
        have hiL : i ∈ L.map Prod.fst := of_decide_eq_true hhas.symm
        have hbb : K.getD i false = true := hbd1.2 ⟨hpm, hin.1 hiL⟩
        rw [if_pos hbb] at hkn
        obtain ⟨hk1, hk2⟩ := Zht hbb hil
        refine Zdc ?_
        refine Zbi rfl ?_
        dsimp only [noGd]
        refine Zaz htb hmz noSp (fun _ => false) rfl rfl rfl ?_; intro m' e' l' ob h; simp only [zE0, zE1, zE2, zE3, zE4, zE5, evp, evx, ev1, evLoad, evStore, evBin, isBoolK, forall_const, z38, tb, Nat.reduceAdd, Nat.reduceSub, Nat.reduceMul, Nat.reduceEqDiff, Nat.reduceLeDiff, Nat.reduceLT, Nat.reduceBEq, Nat.reduceBNe, ↓reduceIte, reduceIte] at h; obtain ⟨rfl, rfl, rfl, rfl⟩ := h; refine ⟨?_, Zac ?_⟩
        · first | ((with_reducible refine Ob.mk ?_); first | exact trivial | (intros; omega) | ((repeat' first | apply And.intro | (intro hg; have hg' := hg; try simp only [zH] at hg')) <;> first | assumption | omega | (simp only [zH]; omega))) | skip
        refine Zbi rfl ?_
        dsimp only [noGd]
        refine Zaz htb hmz noSp (fun _ => false) rfl rfl rfl ?_; intro m' e' l' ob h; simp only [zE0, zE1, zE2, zE3, zE4, zE5, evp, evx, ev1, evLoad, evStore, evBin, isBoolK, forall_const, z38, tb, Nat.reduceAdd, Nat.reduceSub, Nat.reduceMul, Nat.reduceEqDiff, Nat.reduceLeDiff, Nat.reduceLT, Nat.reduceBEq, Nat.reduceBNe, ↓reduceIte, reduceIte] at h; obtain ⟨rfl, rfl, rfl, rfl⟩ := h; refine ⟨?_, Zac ?_⟩
        · first | ((with_reducible refine Ob.mk ?_); first | exact trivial | (intros; omega) | ((repeat' first | apply And.intro | (intro hg; have hg' := hg; try simp only [zH] at hg')) <;> first | assumption | omega | (simp only [zH]; omega))) | skip
        refine Zbs rfl rfl rfl rfl ?_
        dsimp only [noGd]
        refine Zaz htb hmz noSp (fun _ => false) rfl rfl rfl ?_; intro m' e' l' ob h; simp only [zE0, zE1, zE2, zE3, zE4, zE5, evp, evx, ev1, evLoad, evStore, evBin, isBoolK, forall_const, z38, tb, Nat.reduceAdd, Nat.reduceSub, Nat.reduceMul, Nat.reduceEqDiff, Nat.reduceLeDiff, Nat.reduceLT, Nat.reduceBEq, Nat.reduceBNe, ↓reduceIte, reduceIte] at h; obtain ⟨rfl, rfl, rfl, rfl⟩ := h; refine ⟨?_, Zac ?_⟩
        · first | ((with_reducible refine Ob.mk ?_); first | exact trivial | (intros; omega) | ((repeat' first | apply And.intro | (intro hg; have hg' := hg; try simp only [zH] at hg')) <;> first | assumption | omega | (simp only [zH]; omega))) | skip
        refine Zbs rfl rfl rfl rfl ?_
        dsimp only [noGd]
        refine Zaz htb hmz noSp (fun _ => false) rfl rfl rfl ?_; intro m' e' l' ob h; simp only [zE0, zE1, zE2, zE3, zE4, zE5, evp, evx, ev1, evLoad, evStore, evBin, isBoolK, forall_const, z38, tb, Nat.reduceAdd, Nat.reduceSub, Nat.reduceMul, Nat.reduceEqDiff, Nat.reduceLeDiff, Nat.reduceLT, Nat.reduceBEq, Nat.reduceBNe, ↓reduceIte, reduceIte] at h; obtain ⟨rfl, rfl, rfl, rfl⟩ := h; refine ⟨?_, Zac ?_⟩
        · first | ((with_reducible refine Ob.mk ?_); first | exact trivial | (intros; omega) | ((repeat' first | apply And.intro | (intro hg; have hg' := hg; try simp only [zH] at hg')) <;> first | assumption | omega | (simp only [zH]; omega))) | skip
        refine Zbs rfl rfl rfl rfl ?_
        dsimp only [noGd]
        refine Zaz htb hmz noSp (fun _ => false) rfl rfl rfl ?_; intro m' e' l' ob h; simp only [zE0, zE1, zE2, zE3, zE4, zE5, evp, evx, ev1, evLoad, evStore, evBin, isBoolK, forall_const, z38, tb, Nat.reduceAdd, Nat.reduceSub, Nat.reduceMul, Nat.reduceEqDiff, Nat.reduceLeDiff, Nat.reduceLT, Nat.reduceBEq, Nat.reduceBNe, ↓reduceIte, reduceIte] at h; obtain ⟨rfl, rfl, rfl, rfl⟩ := h; refine ⟨?_, Zac ?_⟩
        · first | ((with_reducible refine Ob.mk ?_); first | exact trivial | (intros; omega) | ((repeat' first | apply And.intro | (intro hg; have hg' := hg; try simp only [zH] at hg')) <;> first | assumption | omega | (simp only [zH]; omega))) | skip
        refine Zbs rfl rfl rfl rfl ?_
        dsimp only [noGd]
        refine Zaz htb hmz noSp (fun _ => false) rfl rfl rfl ?_; intro m' e' l' ob h; simp only [zE0, zE1, zE2, zE3, zE4, zE5, evp, evx, ev1, evLoad, evStore, evBin, isBoolK, forall_const, z38, tb, Nat.reduceAdd, Nat.reduceSub, Nat.reduceMul, Nat.reduceEqDiff, Nat.reduceLeDiff, Nat.reduceLT, Nat.reduceBEq, Nat.reduceBNe, ↓reduceIte, reduceIte] at h; obtain ⟨rfl, rfl, rfl, rfl⟩ := h; refine ⟨?_, Zac ?_⟩
        · first | ((with_reducible refine Ob.mk ?_); first | exact trivial | (intros; omega) | ((repeat' first | apply And.intro | (intro hg; have hg' := hg; try simp only [zH] at hg')) <;> first | assumption | omega | (simp only [zH]; omega))) | skip
        refine Zbs rfl rfl rfl rfl ?_
        dsimp only [noGd]
        refine Zaz htb hmz noSp (fun _ => false) rfl rfl rfl ?_; intro m' e' l' ob h; simp only [zE0, zE1, zE2, zE3, zE4, zE5, evp, evx, ev1, evLoad, evStore, evBin, isBoolK, forall_const, z38, tb, Nat.reduceAdd, Nat.reduceSub, Nat.reduceMul, Nat.reduceEqDiff, Nat.reduceLeDiff, Nat.reduceLT, Nat.reduceBEq, Nat.reduceBNe, ↓reduceIte, reduceIte] at h; obtain ⟨rfl, rfl, rfl, rfl⟩ := h; refine ⟨?_, Zac ?_⟩
        · first | ((with_reducible refine Ob.mk ?_); first | exact trivial | (intros; omega) | ((repeat' first | apply And.intro | (intro hg; have hg' := hg; try simp only [zH] at hg')) <;> first | assumption | omega | (simp only [zH]; omega))) | skip
        refine Zbs rfl rfl rfl rfl ?_
        dsimp only [noGd]
        refine Zbh ([22]) (back_fg (clk := clk) hn hE hM hiL) rfl rfl rfl rfl rfl rfl rfl rfl rfl (by simp only [rinR, rhoC, zE0, zE1, zE2, zE3, zE4, zE5, evp, evx, ev1, evLoad, evStore, evBin, isBoolK, forall_const, z38, tb, Nat.reduceAdd, Nat.reduceSub, Nat.reduceMul, Nat.reduceEqDiff, Nat.reduceLeDiff, Nat.reduceLT, Nat.reduceBEq, Nat.reduceBNe, ↓reduceIte, reduceIte]) ?_; intro gm gv gr hq m' e' l' h; obtain ⟨r, hB, hq⟩ := hq; simp only [GR.mk.injEq] at hq; obtain ⟨rfl, rfl, rfl⟩ := hq; simp only [rhoC, outR, renR, dels, zE0, zE1, zE2, zE3, zE4, zE5, evp, evx, ev1, evLoad, evStore, evBin, isBoolK, forall_const, z38, tb, Nat.reduceAdd, Nat.reduceSub, Nat.reduceMul, Nat.reduceEqDiff, Nat.reduceLeDiff, Nat.reduceLT, Nat.reduceBEq, Nat.reduceBNe, ↓reduceIte, reduceIte] at h; obtain ⟨rfl, rfl, rfl⟩ := h; refine Zac ?_
        refine Zbs rfl rfl rfl rfl ?_
        dsimp only [noGd]
        have hYt := hY t (castL r) ht (by show ix t < _; omega) (by
          dsimp only
          rw [hit, hk2]
          exact ⟨L, r, rfl, hE, hB⟩)
        dsimp only at hYt
        rw [hit, hk2] at hYt
        refine awpL_yield [0, 1] hYt rfl rfl rfl rfl rfl rfl rfl rfl ?_ ?_
        · simp only [rinR, rhoC, zE0, zE1, zE2, zE3, zE4, zE5, evp, evx, ev1, evLoad, evStore, evBin, isBoolK, forall_const, z38, tb, Nat.reduceAdd, Nat.reduceSub, Nat.reduceMul, Nat.reduceEqDiff, Nat.reduceLeDiff, Nat.reduceLT, Nat.reduceBEq, Nat.reduceBNe, ↓reduceIte, reduceIte]
          intro k hk
          rw [List.mem_singleton.1 hk]; rfl
        intro gm gv gr hq' m' e' l' h
        obtain ⟨b, t', hbt, hbf, hge⟩ := hq'
        simp only [GR.mk.injEq] at hge
        obtain ⟨rfl, rfl, rfl⟩ := hge
        simp only [rhoC, outR, renR, dels, zE0, zE1, zE2, zE3, zE4, zE5, evp, evx, ev1, evLoad, evStore, evBin, isBoolK, forall_const, z38, tb, Nat.reduceAdd, Nat.reduceSub, Nat.reduceMul, Nat.reduceEqDiff, Nat.reduceLeDiff, Nat.reduceLT, Nat.reduceBEq, Nat.reduceBNe, ↓reduceIte, reduceIte] at h
        obtain ⟨rfl, rfl, rfl⟩ := h
        refine Zac ?_
        refine Zbs rfl rfl rfl rfl ?_
        dsimp only [noGd]
        refine Zaz htb hmz noSp (fun _ => false) rfl rfl rfl ?_; intro m' e' l' ob h; simp only [zE0, zE1, zE2, zE3, zE4, zE5, evp, evx, ev1, evLoad, evStore, evBin, isBoolK, forall_const, z38, tb, Nat.reduceAdd, Nat.reduceSub, Nat.reduceMul, Nat.reduceEqDiff, Nat.reduceLeDiff, Nat.reduceLT, Nat.reduceBEq, Nat.reduceBNe, ↓reduceIte, reduceIte] at h; obtain ⟨rfl, rfl, rfl, rfl⟩ := h; refine ⟨?_, Zac ?_⟩
        · first | ((with_reducible refine Ob.mk ?_); first | exact trivial | (intros; omega) | ((repeat' first | apply And.intro | (intro hg; have hg' := hg; try simp only [zH] at hg')) <;> first | assumption | omega | (simp only [zH]; omega))) | skip
        refine Zbi rfl ?_
        dsimp only [noGd]
        refine Zaz htb hmz noSp (fun _ => false) rfl rfl rfl ?_; intro m' e' l' ob h; simp only [zE0, zE1, zE2, zE3, zE4, zE5, evp, evx, ev1, evLoad, evStore, evBin, isBoolK, forall_const, z38, tb, Nat.reduceAdd, Nat.reduceSub, Nat.reduceMul, Nat.reduceEqDiff, Nat.reduceLeDiff, Nat.reduceLT, Nat.reduceBEq, Nat.reduceBNe, ↓reduceIte, reduceIte] at h; obtain ⟨rfl, rfl, rfl, rfl⟩ := h; refine ⟨?_, Zac ?_⟩
        · first | ((with_reducible refine Ob.mk ?_); first | exact trivial | (intros; omega) | ((repeat' first | apply And.intro | (intro hg; have hg' := hg; try simp only [zH] at hg')) <;> first | assumption | omega | (simp only [zH]; omega))) | skip
        refine Zd0 ?_
        cases b with
        | true =>
          obtain ⟨hI2, hix⟩ := hbt rfl
          repeat' first
            | with_reducible first | refine Zas ?_ | refine Zao ?_ | refine Zac ?_ | refine Zad ?_ | refine Zai ?_ | refine Zaq ?_ | refine Zah ?_ | refine Zak ?_ | refine Zar ?_ | refine Zat ?_ | refine Zap ?_ | refine Zam ?_ | refine Zaa ?_ | refine Zae ?_ | refine Zab ?_ | refine Zal ?_
            | ((with_reducible refine Zaj ?_ ?_); exact rfl)
            | ((with_reducible refine Zau ?_); refine Zan rfl ?_ ?_ <;> intro hb <;> (try simp only [zH] at hb))
            | ((with_reducible refine Za0 ?_); (first | refine Zaf htb hmz noSp (fun _ => false) rfl rfl ?_ | refine Zag hmo htb hmz noSp (fun _ => false) rfl rfl (by kernel_rfl) ?_); intro m' e' l' ob h; simp only [zE0, zE1, zE2, zE3, zE4, zE5, evp, evx, ev1, evLoad, evStore, evBin, isBoolK, forall_const, z38, tb, Nat.reduceAdd, Nat.reduceSub, Nat.reduceMul, Nat.reduceEqDiff, Nat.reduceLeDiff, Nat.reduceLT, Nat.reduceBEq, Nat.reduceBNe, ↓reduceIte, reduceIte] at h; obtain ⟨rfl, rfl, rfl, rfl⟩ := h; refine ⟨?_, ?_⟩)
            | ((with_reducible refine Ob.mk ?_); first | exact trivial | (intros; omega) | ((repeat' first | apply And.intro | (intro hg; have hg' := hg; try simp only [zH] at hg')) <;> first | assumption | omega | (simp only [zH]; omega)))
          · cases hb
          refine back ⟨i + 1, t'⟩ [] ?_ ⟨by dsimp only; omega, hI2, ?_⟩ (by dsimp only; omega)
          · refine ⟨rfl, ?_, ?_⟩ <;> simp only [zE0, zE1, zE2, zE3, zE4, zE5, evp, evx, ev1, evLoad, evStore, evBin, isBoolK, forall_const, z38, tb, Nat.reduceAdd, Nat.reduceSub, Nat.reduceMul, Nat.reduceEqDiff, Nat.reduceLeDiff, Nat.reduceLT, Nat.reduceBEq, Nat.reduceBNe, ↓reduceIte, reduceIte, zI]
            intro k hk
            rw [List.mem_singleton.1 hk]; rfl
          · dsimp only
            have : (kp K (i + 1)).length = (kp K i).length + 1 := by rw [hkn, List.length_append]; rfl
            have hix : ix t' = (kp K i).length + 1 := hix
            omega
        | false =>
          repeat' first
            | with_reducible first | refine Zas ?_ | refine Zao ?_ | refine Zac ?_ | refine Zad ?_ | refine Zai ?_ | refine Zaq ?_ | refine Zah ?_ | refine Zak ?_ | refine Zar ?_ | refine Zat ?_ | refine Zap ?_ | refine Zam ?_ | refine Zaa ?_ | refine Zae ?_ | refine Zab ?_ | refine Zal ?_
            | ((with_reducible refine Zaj ?_ ?_); exact rfl)
            | ((with_reducible refine Zau ?_); refine Zan rfl ?_ ?_ <;> intro hb <;> (try simp only [zH] at hb))
            | ((with_reducible refine Za0 ?_); (first | refine Zaf htb hmz noSp (fun _ => false) rfl rfl ?_ | refine Zag hmo htb hmz noSp (fun _ => false) rfl rfl (by kernel_rfl) ?_); intro m' e' l' ob h; simp only [zE0, zE1, zE2, zE3, zE4, zE5, evp, evx, ev1, evLoad, evStore, evBin, isBoolK, forall_const, z38, tb, Nat.reduceAdd, Nat.reduceSub, Nat.reduceMul, Nat.reduceEqDiff, Nat.reduceLeDiff, Nat.reduceLT, Nat.reduceBEq, Nat.reduceBNe, ↓reduceIte, reduceIte] at h; obtain ⟨rfl, rfl, rfl, rfl⟩ := h; refine ⟨?_, ?_⟩)
            | ((with_reducible refine Ob.mk ?_); first | exact trivial | (intros; omega) | ((repeat' first | apply And.intro | (intro hg; have hg' := hg; try simp only [zH] at hg')) <;> first | assumption | omega | (simp only [zH]; omega)))
          · refine Zay rfl rfl (Zcw ⟨2, resV [], [(1, some (.sem [0] (A false t')))]⟩ [] ⟨false, t', (fun h => by cases h), hbf, rfl⟩ rfl (Zbp rfl) ?_)
            simp only [grR, zE0, zE1, zE2, zE3, zE4, zE5, evp, evx, ev1, evLoad, evStore, evBin, isBoolK, forall_const, z38, tb, Nat.reduceAdd, Nat.reduceSub, Nat.reduceMul, Nat.reduceEqDiff, Nat.reduceLeDiff, Nat.reduceLT, Nat.reduceBEq, Nat.reduceBNe, ↓reduceIte, reduceIte]
            intro k hk
            rw [List.mem_singleton.1 hk]; rfl
          · cases hb
      | false =>
        rw [hh] at hhas
        have hkf : K.getD i false = false := by
          cases h : K.getD i false with
          | false => rfl
          | true => exact absurd (hin.2 (hbd1.1 h).2) (of_decide_eq_false hhas.symm)
        rw [if_neg (by rw [hkf]; decide)] at hkn
        refine Zdc ?_
        refine Zbi rfl ?_
        dsimp only [noGd]
        refine Zaz htb hmz noSp (fun _ => false) rfl rfl rfl ?_; intro m' e' l' ob h; simp only [zE0, zE1, zE2, zE3, zE4, zE5, evp, evx, ev1, evLoad, evStore, evBin, isBoolK, forall_const, z38, tb, Nat.reduceAdd, Nat.reduceSub, Nat.reduceMul, Nat.reduceEqDiff, Nat.reduceLeDiff, Nat.reduceLT, Nat.reduceBEq, Nat.reduceBNe, ↓reduceIte, reduceIte] at h; obtain ⟨rfl, rfl, rfl, rfl⟩ := h; refine ⟨?_, Zac ?_⟩
        · first | ((with_reducible refine Ob.mk ?_); first | exact trivial | (intros; omega) | ((repeat' first | apply And.intro | (intro hg; have hg' := hg; try simp only [zH] at hg')) <;> first | assumption | omega | (simp only [zH]; omega))) | skip
        refine Zbi rfl ?_
        dsimp only [noGd]
        refine Zaz htb hmz noSp (fun _ => false) rfl rfl rfl ?_; intro m' e' l' ob h; simp only [zE0, zE1, zE2, zE3, zE4, zE5, evp, evx, ev1, evLoad, evStore, evBin, isBoolK, forall_const, z38, tb, Nat.reduceAdd, Nat.reduceSub, Nat.reduceMul, Nat.reduceEqDiff, Nat.reduceLeDiff, Nat.reduceLT, Nat.reduceBEq, Nat.reduceBNe, ↓reduceIte, reduceIte] at h; obtain ⟨rfl, rfl, rfl, rfl⟩ := h; refine ⟨?_, Zac ?_⟩
        · first | ((with_reducible refine Ob.mk ?_); first | exact trivial | (intros; omega) | ((repeat' first | apply And.intro | (intro hg; have hg' := hg; try simp only [zH] at hg')) <;> first | assumption | omega | (simp only [zH]; omega))) | skip
        refine Zb5 rfl rfl rfl rfl rfl ?_
        refine Zb5 rfl rfl rfl rfl rfl ?_
        refine Zb5 rfl rfl rfl rfl rfl ?_
        refine Zb5 rfl rfl rfl rfl rfl ?_
        refine Zb5 rfl rfl rfl rfl rfl ?_
        refine Zb5 rfl rfl rfl rfl rfl ?_
        refine Zb5 rfl rfl rfl rfl rfl ?_
        refine Zb5 rfl rfl rfl rfl rfl ?_
        refine Zbi rfl ?_
        dsimp only [noGd, putE]
        refine Zaz htb hmz noSp (fun _ => false) rfl rfl rfl ?_; intro m' e' l' ob h; simp only [zE0, zE1, zE2, zE3, zE4, zE5, evp, evx, ev1, evLoad, evStore, evBin, isBoolK, forall_const, z38, tb, Nat.reduceAdd, Nat.reduceSub, Nat.reduceMul, Nat.reduceEqDiff, Nat.reduceLeDiff, Nat.reduceLT, Nat.reduceBEq, Nat.reduceBNe, ↓reduceIte, reduceIte] at h; obtain ⟨rfl, rfl, rfl, rfl⟩ := h; refine ⟨?_, Zac ?_⟩
        · first | ((with_reducible refine Ob.mk ?_); first | exact trivial | (intros; omega) | ((repeat' first | apply And.intro | (intro hg; have hg' := hg; try simp only [zH] at hg')) <;> first | assumption | omega | (simp only [zH]; omega))) | skip
        refine Zd0 ?_
        repeat' first
          | with_reducible first | refine Zas ?_ | refine Zao ?_ | refine Zac ?_ | refine Zad ?_ | refine Zai ?_ | refine Zaq ?_ | refine Zah ?_ | refine Zak ?_ | refine Zar ?_ | refine Zat ?_ | refine Zap ?_ | refine Zam ?_ | refine Zaa ?_ | refine Zae ?_ | refine Zab ?_ | refine Zal ?_
          | ((with_reducible refine Zaj ?_ ?_); exact rfl)
          | ((with_reducible refine Zau ?_); refine Zan rfl ?_ ?_ <;> intro hb <;> (try simp only [zH] at hb))
          | ((with_reducible refine Za0 ?_); (first | refine Zaf htb hmz noSp (fun _ => false) rfl rfl ?_ | refine Zag hmo htb hmz noSp (fun _ => false) rfl rfl (by kernel_rfl) ?_); intro m' e' l' ob h; simp only [zE0, zE1, zE2, zE3, zE4, zE5, evp, evx, ev1, evLoad, evStore, evBin, isBoolK, forall_const, z38, tb, Nat.reduceAdd, Nat.reduceSub, Nat.reduceMul, Nat.reduceEqDiff, Nat.reduceLeDiff, Nat.reduceLT, Nat.reduceBEq, Nat.reduceBNe, ↓reduceIte, reduceIte] at h; obtain ⟨rfl, rfl, rfl, rfl⟩ := h; refine ⟨?_, ?_⟩)
          | ((with_reducible refine Ob.mk ?_); first | exact trivial | (intros; omega) | ((repeat' first | apply And.intro | (intro hg; have hg' := hg; try simp only [zH] at hg')) <;> first | assumption | omega | (simp only [zH]; omega)))
        · cases hb
        refine back ⟨i + 1, t⟩ [] ?_ ⟨by dsimp only; omega, ht, ?_⟩ (by dsimp only; omega)
        · refine ⟨rfl, ?_, ?_⟩ <;> simp only [zE0, zE1, zE2, zE3, zE4, zE5, evp, evx, ev1, evLoad, evStore, evBin, isBoolK, forall_const, z38, tb, Nat.reduceAdd, Nat.reduceSub, Nat.reduceMul, Nat.reduceEqDiff, Nat.reduceLeDiff, Nat.reduceLT, Nat.reduceBEq, Nat.reduceBNe, ↓reduceIte, reduceIte, zI]
          intro k hk
          rw [List.mem_singleton.1 hk]; rfl
        · dsimp only
          rw [hit, hkn]
  · have hie : i = o.length := by omega
    subst hie
    refine fin_normal rfl rfl (Zcw ⟨2, resV [], [(1, some (.sem [0] (A true t)))]⟩ [] ⟨true, t, (fun _ => ⟨ht, hit⟩), (fun h => by cases h), rfl⟩ rfl (Zbp rfl) ?_)
    simp only [grR, zE0, zE1, zE2, zE3, zE4, zE5, evp, evx, ev1, evLoad, evStore, evBin, isBoolK, forall_const, z38, tb, Nat.reduceAdd, Nat.reduceSub, Nat.reduceMul, Nat.reduceEqDiff, Nat.reduceLeDiff, Nat.reduceLT, Nat.reduceBEq, Nat.reduceBNe, ↓reduceIte, reduceIte]
    intro k hk
    rw [List.mem_singleton.1 hk]; rfl
end Go.Proofs.Ytbcghiagomkadaa.Cal
