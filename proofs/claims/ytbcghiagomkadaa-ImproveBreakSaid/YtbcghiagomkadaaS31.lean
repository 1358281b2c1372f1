/- Own texts of the proof, merged, in order. -/
import Derived.Test.YtbcghiagomkadaaS30
set_option linter.unusedVariables false
set_option linter.unusedSimpArgs false
namespace Go.Proofs.Ytbcghiagomkadaa.Cal
open Go Pl
set_option maxRecDepth 4000 in
set_option maxHeartbeats 4000000 in
theorem brk1_fg {w : Nat} : FG Try.prog 38 [.int .i64 w] [] 0 fun g => g = ⟨0, .bool true, []⟩ := by
  refine Zd1 htb (fn := Try.f38) (by kernel_rfl) (by kernel_rfl) rfl (Nat.le_of_ble_eq_true rfl) fun hl => ?_
  simp only [lenP, mkL, lim] at hl
  repeat' first
    | with_reducible first | refine Zas ?_ | refine Zao ?_ | refine Zac ?_ | refine Zad ?_ | refine Zai ?_ | refine Zaq ?_ | refine Zah ?_ | refine Zak ?_ | refine Zar ?_ | refine Zat ?_ | refine Zap ?_ | refine Zam ?_ | refine Zaa ?_ | refine Zae ?_ | refine Zab ?_ | refine Zal ?_
    | ((with_reducible refine Zaj ?_ ?_); exact rfl)
    | ((with_reducible refine Zau ?_); refine Zan rfl ?_ ?_ <;> intro hb <;> (try simp only [zH] at hb))
    | ((with_reducible refine Za0 ?_); (first | refine Zaf htb hmz noSp (fun _ => false) rfl rfl ?_ | refine Zag hmo htb hmz noSp (fun _ => false) rfl rfl (by kernel_rfl) ?_); intro m' e' l' ob h; simp only [zE0, zE1, zE2, zE3, zE4, zE5, evp, evx, ev1, evLoad, evStore, evBin, isBoolK, forall_const, z38, tb, Nat.reduceAdd, Nat.reduceSub, Nat.reduceMul, Nat.reduceEqDiff, Nat.reduceLeDiff, Nat.reduceLT, Nat.reduceBEq, Nat.reduceBNe, ↓reduceIte, reduceIte] at h; obtain ⟨rfl, rfl, rfl, rfl⟩ := h; refine ⟨?_, ?_⟩)
    | ((with_reducible refine Ob.mk ?_); first | exact trivial | (intros; omega) | ((repeat' first | apply And.intro | (intro hg; have hg' := hg; try simp only [zH] at hg')) <;> first | assumption | omega | (simp only [zH]; omega)))
  refine Zay rfl rfl (Zcw (⟨0, .bool true, []⟩) ([]) rfl rfl (Zbp rfl) ?_)
  simp only [grR, zE0, zE1, zE2, zE3, zE4, zE5, evp, evx, ev1, evLoad, evStore, evBin, isBoolK, forall_const, z38, tb, Nat.reduceAdd, Nat.reduceSub, Nat.reduceMul, Nat.reduceEqDiff, Nat.reduceLeDiff, Nat.reduceLT, Nat.reduceBEq, Nat.reduceBNe, ↓reduceIte, reduceIte]
theorem back_det {nx : Nat → List Nat} {thr : Nat → Prop} {n fr to i j clk : Nat} {L : List (Nat × Nat)} {es : List (Int × Int × Nat)} (hn : n ≤ 20000) (hR : RQ nx thr n fr L i j) (hM : MQ es L) (hto : to ∈ L.map Prod.fst) :
    ∃ r, BkR nx L fr to r ∧ FG Try.prog 40 [.own 0, .int .i64 fr, .int .i64 to] [(0, some (.mp es clk))] 1 fun g => g = ⟨1, .roI (castL r), [(0, some (.mp es clk))]⟩ := by
  obtain ⟨o, ho⟩ := bk_ex hR hto
  refine ⟨o.reverse, ⟨o, fr, rfl, ho, rfl⟩, (back_fg hn hR hM hto).mono ?_⟩
  rintro g ⟨r, hr, rfl⟩
  obtain ⟨o', v, rfl, hb, _⟩ := hr.ex
  rw [bk_uniq hR ho hb]
noncomputable def spBk : Nat → Option Spec
  | 29 => some chkS
  | 39 => some badS
  | _ => none
theorem Zbc : SpOK Try.prog spBk := by
  intro f S h
  unfold spBk at h
  split at h
  · cases h; exact Zey
  · cases h; exact bad_ok
  · cases h
structure BrS where
  i : Nat
  s : List Int
  l : List Int
  e : Int
set_option maxRecDepth 4000 in
set_option maxHeartbeats 4000000 in
theorem brkE_fg {o p : List Int} {x : List (List Int)} {pl v : Int} {c : List Int} (ha : asksR ⟨o, p, x⟩ pl c ≠ 0) : FG Try.prog 21 [.agg (.cons (.roI o) (.cons (.roI p) (.cons (.roII x) .nil))), .int .i64 pl, .roI c, .int .i64 v] [] 0 fun g => g = ⟨0, .tup (.cons (.roI []) (.cons (.roI []) (.cons (.int .i64 (asksR ⟨o, p, x⟩ pl c)) .nil))), []⟩ := by
  refine Zd1 htb (fn := Try.f21) (by kernel_rfl) (by kernel_rfl) rfl (Nat.le_of_ble_eq_true rfl) fun hl => ?_
  simp only [lenP, mkL, lim] at hl
  repeat' first
    | with_reducible first | refine Zas ?_ | refine Zao ?_ | refine Zac ?_ | refine Zad ?_ | refine Zai ?_ | refine Zaq ?_ | refine Zah ?_ | refine Zak ?_ | refine Zar ?_ | refine Zat ?_ | refine Zap ?_ | refine Zam ?_ | refine Zaa ?_ | refine Zae ?_ | refine Zab ?_ | refine Zal ?_
    | ((with_reducible refine Zaj ?_ ?_); exact rfl)
    | ((with_reducible refine Zau ?_); refine Zan rfl ?_ ?_ <;> intro hb <;> (try simp only [zH] at hb))
    | ((with_reducible refine Zav 3 ?_ ?_); (· exact rfl); (with_reducible refine Zav 4 ?_ ?_); (· exact rfl); (first | refine Zaf htb hmz Zbc (fun _ => false) rfl rfl ?_ | refine Zag hmo htb hmz Zbc (fun _ => false) rfl rfl (by kernel_rfl) ?_); intro m' e' l' ob h; simp only [zE0, zE1, zE2, zE3, zE4, zE5, evp, evx, ev1, evLoad, evStore, evBin, isBoolK, forall_const, z38, tb, Nat.reduceAdd, Nat.reduceSub, Nat.reduceMul, Nat.reduceEqDiff, Nat.reduceLeDiff, Nat.reduceLT, Nat.reduceBEq, Nat.reduceBNe, ↓reduceIte, reduceIte, spBk, chkS, badS] at h; obtain ⟨rfl, rfl, rfl, rfl⟩ := h; refine ⟨?_, ?_⟩)
    | ((with_reducible refine Ob.mk ?_); first | exact trivial | (intros; omega) | ((repeat' first | apply And.intro | (intro hg; have hg' := hg; try simp only [zH] at hg')) <;> first | assumption | omega | (simp only [zH]; omega)))
  · repeat' first
      | with_reducible first | refine Zas ?_ | refine Zao ?_ | refine Zac ?_ | refine Zad ?_ | refine Zai ?_ | refine Zaq ?_ | refine Zah ?_ | refine Zak ?_ | refine Zar ?_ | refine Zat ?_ | refine Zap ?_ | refine Zam ?_ | refine Zaa ?_ | refine Zae ?_ | refine Zab ?_ | refine Zal ?_
      | ((with_reducible refine Zaj ?_ ?_); exact rfl)
      | ((with_reducible refine Zau ?_); refine Zan rfl ?_ ?_ <;> intro hb <;> (try simp only [zH] at hb))
      | ((with_reducible refine Za0 ?_); (first | refine Zaf htb hmz Zbc (fun _ => false) rfl rfl ?_ | refine Zag hmo htb hmz Zbc (fun _ => false) rfl rfl (by kernel_rfl) ?_); intro m' e' l' ob h; simp only [zE0, zE1, zE2, zE3, zE4, zE5, evp, evx, ev1, evLoad, evStore, evBin, isBoolK, forall_const, z38, tb, Nat.reduceAdd, Nat.reduceSub, Nat.reduceMul, Nat.reduceEqDiff, Nat.reduceLeDiff, Nat.reduceLT, Nat.reduceBEq, Nat.reduceBNe, ↓reduceIte, reduceIte, spBk, chkS, badS] at h; obtain ⟨rfl, rfl, rfl, rfl⟩ := h; refine ⟨?_, ?_⟩)
      | ((with_reducible refine Ob.mk ?_); first | exact trivial | (intros; omega) | ((repeat' first | apply And.intro | (intro hg; have hg' := hg; try simp only [zH] at hg')) <;> first | assumption | omega | (simp only [zH]; omega)))
    refine Zay rfl rfl (Zcw ⟨0, resV [.roI [], .roI [], .int .i64 (asksR ⟨o, p, x⟩ pl c)], []⟩ [] rfl rfl ?_ trivial)
    exact Zfo (Zb3 Zco (Zb3 Zco (Zbp rfl)))
  exact absurd hb ha
set_option maxRecDepth 4000 in
set_option maxHeartbeats 4000000 in
theorem brk_fg {o p : List Int} {x : List (List Int)} {pl v : Int} {c : List Int} (ha : asksR ⟨o, p, x⟩ pl c = 0) : FG Try.prog 21 [.agg (.cons (.roI o) (.cons (.roI p) (.cons (.roII x) .nil))), .int .i64 pl, .roI c, .int .i64 v] [] 0 fun g => ∃ (s l : List Int) (e : Int), (((v < 0 ∨ (o.length : Int) ≤ v) ∧ s = [] ∧ l = [] ∧ e = 6) ∨ ((0 ≤ v ∧ v < (o.length : Int)) ∧ (((fromL ⟨o, p, x⟩ pl c).getD v.toNat false = true ∧ s = [] ∧ l = [] ∧ e = 5) ∨ ((fromL ⟨o, p, x⟩ pl c).getD v.toNat false = false ∧ e = 0 ∧ ∃ S Lp, s = castL S ∧ l = castL Lp ∧ BrkOK (nxN o x pl c) (fun v => p.getD v 0) pl o.length v.toNat S Lp)))) ∧ g = ⟨0, .tup (.cons (.roI s) (.cons (.roI l) (.cons (.int .i64 e) .nil))), []⟩ := by
  obtain ⟨hv, hp, hf⟩ : validB ⟨o, p, x⟩ = true ∧ (pl = (0 : Int) ∨ pl = (1 : Int)) ∧ fullB ⟨o, p, x⟩ pl c = true := by
    rcases Zgt ⟨o, p, x⟩ pl c with ⟨hv, hp, hf, _⟩ | h
    · exact ⟨hv, by omega, hf⟩
    · exact absurd ha h
  have hH := Zg8 hv hf
  have hw := Zgy hH hp
  refine Zd1 htb (fn := Try.f21) (by kernel_rfl) (by kernel_rfl) rfl (Nat.le_of_ble_eq_true rfl) fun hl => ?_
  simp only [lenP, mkL, lim] at hl
  repeat' first
    | with_reducible first | refine Zas ?_ | refine Zao ?_ | refine Zac ?_ | refine Zad ?_ | refine Zai ?_ | refine Zaq ?_ | refine Zah ?_ | refine Zak ?_ | refine Zar ?_ | refine Zat ?_ | refine Zap ?_ | refine Zam ?_ | refine Zaa ?_ | refine Zae ?_ | refine Zab ?_ | refine Zal ?_
    | ((with_reducible refine Zaj ?_ ?_); exact rfl)
    | ((with_reducible refine Zau ?_); refine Zan rfl ?_ ?_ <;> intro hb <;> (try simp only [zH] at hb))
    | ((with_reducible refine Zav 2 ?_ ?_); (· exact rfl); (first | refine Zaf htb hmz Zbc (fun _ => false) rfl rfl ?_ | refine Zag hmo htb hmz Zbc (fun _ => false) rfl rfl (by kernel_rfl) ?_); intro m' e' l' ob h; simp only [zE0, zE1, zE2, zE3, zE4, zE5, evp, evx, ev1, evLoad, evStore, evBin, isBoolK, forall_const, z38, tb, Nat.reduceAdd, Nat.reduceSub, Nat.reduceMul, Nat.reduceEqDiff, Nat.reduceLeDiff, Nat.reduceLT, Nat.reduceBEq, Nat.reduceBNe, ↓reduceIte, reduceIte, spBk, chkS, badS] at h; obtain ⟨rfl, rfl, rfl, rfl⟩ := h; refine ⟨?_, ?_⟩)
    | ((with_reducible refine Ob.mk ?_); first | exact trivial | (intros; omega) | ((repeat' first | apply And.intro | (intro hg; have hg' := hg; try simp only [zH] at hg')) <;> first | assumption | omega | (simp only [zH]; omega)))
  rw [ha, Zee, Zee, Zee, Zg1, Zhq]
  repeat' first
    | with_reducible first | refine Zas ?_ | refine Zao ?_ | refine Zac ?_ | refine Zad ?_ | refine Zai ?_ | refine Zaq ?_ | refine Zah ?_ | refine Zak ?_ | refine Zar ?_ | refine Zat ?_ | refine Zap ?_ | refine Zam ?_ | refine Zaa ?_ | refine Zae ?_ | refine Zab ?_ | refine Zal ?_
    | ((with_reducible refine Zaj ?_ ?_); exact rfl)
    | ((with_reducible refine Zau ?_); refine Zan rfl ?_ ?_ <;> intro hb <;> (try simp only [zH] at hb))
    | ((with_reducible refine Zav 3 ?_ ?_); (· exact rfl); (with_reducible refine Zav 4 ?_ ?_); (· exact rfl); (first | refine Zaf htb hmz Zbc (fun _ => false) rfl rfl ?_ | refine Zag hmo htb hmz Zbc (fun _ => false) rfl rfl (by kernel_rfl) ?_); intro m' e' l' ob h; simp only [zE0, zE1, zE2, zE3, zE4, zE5, evp, evx, ev1, evLoad, evStore, evBin, isBoolK, forall_const, z38, tb, Nat.reduceAdd, Nat.reduceSub, Nat.reduceMul, Nat.reduceEqDiff, Nat.reduceLeDiff, Nat.reduceLT, Nat.reduceBEq, Nat.reduceBNe, ↓reduceIte, reduceIte, spBk, chkS, badS] at h; obtain ⟨rfl, rfl, rfl, rfl⟩ := h; refine ⟨?_, ?_⟩)
    | ((with_reducible refine Ob.mk ?_); first | exact trivial | (intros; omega) | ((repeat' first | apply And.intro | (intro hg; have hg' := hg; try simp only [zH] at hg')) <;> first | assumption | omega | (simp only [zH]; omega)))
  · exact absurd hb (by decide)
  clear hb
  repeat' first
    | with_reducible first | refine Zas ?_ | refine Zao ?_ | refine Zac ?_ | refine Zad ?_ | refine Zai ?_ | refine Zaq ?_ | refine Zah ?_ | refine Zak ?_ | refine Zar ?_ | refine Zat ?_ | refine Zap ?_ | refine Zam ?_ | refine Zaa ?_ | refine Zae ?_ | refine Zab ?_ | refine Zal ?_
    | ((with_reducible refine Zaj ?_ ?_); exact rfl)
    | ((with_reducible refine Zau ?_); refine Zan rfl ?_ ?_ <;> intro hb <;> (try simp only [zH] at hb))
    | ((with_reducible refine Zav 5 ?_ ?_); (· exact rfl); (with_reducible refine Zav 6 ?_ ?_); (· exact rfl); (first | refine Zaf htb hmz Zbc (fun _ => false) rfl rfl ?_ | refine Zag hmo htb hmz Zbc (fun _ => false) rfl rfl (by kernel_rfl) ?_); intro m' e' l' ob h; simp only [zE0, zE1, zE2, zE3, zE4, zE5, evp, evx, ev1, evLoad, evStore, evBin, isBoolK, forall_const, z38, tb, Nat.reduceAdd, Nat.reduceSub, Nat.reduceMul, Nat.reduceEqDiff, Nat.reduceLeDiff, Nat.reduceLT, Nat.reduceBEq, Nat.reduceBNe, ↓reduceIte, reduceIte, spBk, chkS, badS] at h; obtain ⟨rfl, rfl, rfl, rfl⟩ := h; refine ⟨?_, ?_⟩)
    | ((with_reducible refine Ob.mk ?_); first | exact trivial | (intros; omega) | ((repeat' first | apply And.intro | (intro hg; have hg' := hg; try simp only [zH] at hg')) <;> first | assumption | omega | (simp only [zH]; omega)))
  · repeat' first
      | with_reducible first | refine Zas ?_ | refine Zao ?_ | refine Zac ?_ | refine Zad ?_ | refine Zai ?_ | refine Zaq ?_ | refine Zah ?_ | refine Zak ?_ | refine Zar ?_ | refine Zat ?_ | refine Zap ?_ | refine Zam ?_ | refine Zaa ?_ | refine Zae ?_ | refine Zab ?_ | refine Zal ?_
      | ((with_reducible refine Zaj ?_ ?_); exact rfl)
      | ((with_reducible refine Zau ?_); refine Zan rfl ?_ ?_ <;> intro hb <;> (try simp only [zH] at hb))
      | ((with_reducible refine Za0 ?_); (first | refine Zaf htb hmz Zbc (fun _ => false) rfl rfl ?_ | refine Zag hmo htb hmz Zbc (fun _ => false) rfl rfl (by kernel_rfl) ?_); intro m' e' l' ob h; simp only [zE0, zE1, zE2, zE3, zE4, zE5, evp, evx, ev1, evLoad, evStore, evBin, isBoolK, forall_const, z38, tb, Nat.reduceAdd, Nat.reduceSub, Nat.reduceMul, Nat.reduceEqDiff, Nat.reduceLeDiff, Nat.reduceLT, Nat.reduceBEq, Nat.reduceBNe, ↓reduceIte, reduceIte, spBk, chkS, badS] at h; obtain ⟨rfl, rfl, rfl, rfl⟩ := h; refine ⟨?_, ?_⟩)
      | ((with_reducible refine Ob.mk ?_); first | exact trivial | (intros; omega) | ((repeat' first | apply And.intro | (intro hg; have hg' := hg; try simp only [zH] at hg')) <;> first | assumption | omega | (simp only [zH]; omega)))
    refine Zay rfl rfl (Zcw ⟨0, resV [.roI [], .roI [], .int .i64 6], []⟩ [] ⟨[], [], 6, .inl ⟨hb, rfl, rfl, rfl⟩, rfl⟩ rfl ?_ trivial)
    exact Zfo (Zb3 Zco (Zb3 Zco (Zbp rfl)))
  obtain ⟨n, rfl⟩ := Int.eq_ofNat_of_zero_le (a := v) (by omega)
  have hvn : n < o.length := by omega
  obtain ⟨hn, hpl, hp0, hxl, hcl, hrow⟩ := hH
  clear hb
  refine Zcg ([_, _]) ([_, _]) rfl rfl ?_
  refine Zaz htb hmz Zbc (fun _ => false) rfl rfl rfl ?_; intro m' e' l' ob h; simp only [zE0, zE1, zE2, zE3, zE4, zE5, evp, evx, ev1, evLoad, evStore, evBin, isBoolK, forall_const, z38, tb, Nat.reduceAdd, Nat.reduceSub, Nat.reduceMul, Nat.reduceEqDiff, Nat.reduceLeDiff, Nat.reduceLT, Nat.reduceBEq, Nat.reduceBNe, ↓reduceIte, reduceIte, spBk, chkS, badS] at h; obtain ⟨rfl, rfl, rfl, rfl⟩ := h; refine ⟨?_, Zac ?_⟩
  · first | ((with_reducible refine Ob.mk ?_); first | exact trivial | (intros; omega) | ((repeat' first | apply And.intro | (intro hg; have hg' := hg; try simp only [zH] at hg')) <;> first | assumption | omega | (simp only [zH]; omega))) | skip
  refine Zbh ([]) (reached0_fg (o := o) (p := p) (c := c) (x := x) (pl := pl) (th := fun _ => true) hn hvn hxl hcl hrow (fun w hw => brk1_fg)) rfl rfl rfl rfl rfl rfl rfl rfl rfl (by simp only [rinR, rhoC, zE0, zE1, zE2, zE3, zE4, zE5, evp, evx, ev1, evLoad, evStore, evBin, isBoolK, forall_const, z38, tb, Nat.reduceAdd, Nat.reduceSub, Nat.reduceMul, Nat.reduceEqDiff, Nat.reduceLeDiff, Nat.reduceLT, Nat.reduceBEq, Nat.reduceBNe, ↓reduceIte, reduceIte, spBk, chkS, badS]) ?_; intro gm gv gr hq m' e' l' h; obtain ⟨L, es, clk, ⟨hE, hM⟩, hq⟩ := hq; simp only [GR.mk.injEq] at hq; obtain ⟨rfl, rfl, rfl⟩ := hq; simp only [rhoC, outR, renR, dels, zE0, zE1, zE2, zE3, zE4, zE5, evp, evx, ev1, evLoad, evStore, evBin, isBoolK, forall_const, z38, tb, Nat.reduceAdd, Nat.reduceSub, Nat.reduceMul, Nat.reduceEqDiff, Nat.reduceLeDiff, Nat.reduceLT, Nat.reduceBEq, Nat.reduceBNe, ↓reduceIte, reduceIte, spBk, chkS, badS] at h; obtain ⟨rfl, rfl, rfl⟩ := h; refine Zac ?_
  refine Zaz htb hmz Zbc (fun _ => false) rfl rfl rfl ?_; intro m' e' l' ob h; simp only [zE0, zE1, zE2, zE3, zE4, zE5, evp, evx, ev1, evLoad, evStore, evBin, isBoolK, forall_const, z38, tb, Nat.reduceAdd, Nat.reduceSub, Nat.reduceMul, Nat.reduceEqDiff, Nat.reduceLeDiff, Nat.reduceLT, Nat.reduceBEq, Nat.reduceBNe, ↓reduceIte, reduceIte, spBk, chkS, badS] at h; obtain ⟨rfl, rfl, rfl, rfl⟩ := h; refine ⟨?_, ?_⟩
  · first | ((with_reducible refine Ob.mk ?_); first | exact trivial | (intros; omega) | ((repeat' first | apply And.intro | (intro hg; have hg' := hg; try simp only [zH] at hg')) <;> first | assumption | omega | (simp only [zH]; omega))) | skip
  refine Zac ?_
  refine Zgr 2 rfl rfl (Zgr 3 rfl rfl ?_)
  repeat' first
    | with_reducible first | refine Zas ?_ | refine Zao ?_ | refine Zac ?_ | refine Zad ?_ | refine Zai ?_ | refine Zaq ?_ | refine Zah ?_ | refine Zak ?_ | refine Zar ?_ | refine Zat ?_ | refine Zap ?_ | refine Zam ?_ | refine Zaa ?_ | refine Zae ?_ | refine Zab ?_ | refine Zal ?_
    | ((with_reducible refine Zaj ?_ ?_); exact rfl)
    | ((with_reducible refine Zau ?_); refine Zan rfl ?_ ?_ <;> intro hb <;> (try simp only [zH] at hb))
    | ((with_reducible refine Za0 ?_); (first | refine Zaf htb hmz Zbc (fun _ => false) rfl rfl ?_ | refine Zag hmo htb hmz Zbc (fun _ => false) rfl rfl (by kernel_rfl) ?_); intro m' e' l' ob h; simp only [zE0, zE1, zE2, zE3, zE4, zE5, evp, evx, ev1, evLoad, evStore, evBin, isBoolK, forall_const, z38, tb, Nat.reduceAdd, Nat.reduceSub, Nat.reduceMul, Nat.reduceEqDiff, Nat.reduceLeDiff, Nat.reduceLT, Nat.reduceBEq, Nat.reduceBNe, ↓reduceIte, reduceIte, spBk, chkS, badS] at h; obtain ⟨rfl, rfl, rfl, rfl⟩ := h; refine ⟨?_, ?_⟩)
    | ((with_reducible refine Ob.mk ?_); first | exact trivial | (intros; omega) | ((repeat' first | apply And.intro | (intro hg; have hg' := hg; try simp only [zH] at hg')) <;> first | assumption | omega | (simp only [zH]; omega)))
  have hkl := fun i (h : i < (kp (bdK o p x pl c) o.length).length) => Zh3 h
  have hbk := fun b (hb : b < o.length) => Zgp (o := o) (p := p) (x := x) (pl := pl) (c := c) hb
  have hwn := fun i => Zet (E := fun a b => b ∈ nxN o x pl c a) (n := o.length) (B := kp (bdK o p x pl c) o.length) (i := i) hvn
  have hwB : fromL ⟨o, p, x⟩ pl c = wnX (fun a b => b ∈ nxN o x pl c a) o.length (kp (bdK o p x pl c) o.length) (kp (bdK o p x pl c) o.length).length := hw.symm
  have hit := fun (ix : BrS → Nat) (I X : BrS → Prop) hI => bad1_iter (o := o) (p := p) (c := c) (x := x) (pl := pl) hn hpl hp0 hxl hcl hrow I X ix hI
  have hre := Zhz hE
  rw [hwB]
  clear hw hwB
  generalize kp (bdK o p x pl c) o.length = KL at *
  refine Zgs ⟨33, [(40, .fn 52 (.cons (.rop (.agg (.cons (.roI o) (.cons (.roI p) (.cons (.roII x) (.cons (.int .i64 pl) (.cons (.roI c) .nil))))))) .nil)), (12, .own 29), (10, .own 4), (9, .own 3), (8, .own 2), (7, .rop (.int .i64 n))], [(28, some (.mp es clk)), (29, some (.box (.own 28))), (2, some (.box (.roI []))), (3, some (.box (.roI []))), (4, some (.box (.int .i64 0)))], []⟩ [] ?_ ?_
  · (refine ⟨rfl, ?_, ?_⟩ <;> simp only [zE0, zE1, zE2, zE3, zE4, zE5, evp, evx, ev1, evLoad, evStore, evBin, isBoolK, forall_const, z38, tb, Nat.reduceAdd, Nat.reduceSub, Nat.reduceMul, Nat.reduceEqDiff, Nat.reduceLeDiff, Nat.reduceLT, Nat.reduceBEq, Nat.reduceBNe, ↓reduceIte, reduceIte, spBk, chkS, badS, zI])
    exact rfl
  refine awp_rangeU (m := 33) (M := 33) (fun t : BrS => t.i ≤ KL.length ∧ (t.s = [] ∧ t.l = [] ∧ t.e = 0) ∧ ∀ j, j < t.i → KL.getD j 0 ≠ n ∧ KL.getD j 0 ∉ L.map Prod.fst)
    (fun t : BrS => t.e = 0 ∧ (∃ j, j < KL.length ∧ (KL.getD j 0 = n ∨ KL.getD j 0 ∈ L.map Prod.fst)) ∧ ∃ S Lp, t.s = castL S ∧ t.l = castL Lp ∧ BrkOK (nxN o x pl c) (fun v => p.getD v 0) pl o.length n S Lp)
    (fun t => ((KL.getD t.i 0 : Nat) : Int)) (fun t li => bdW o p x pl c (KL.getD t.i 0) li) (fun t => t.i < KL.length) (fun t t' => t'.i = t.i + 1) (fun t => t.i = 0) (fun t => t.i = KL.length) .ret
    (fun t => [(28, some (.mp es clk)), (29, some (.box (.own 28))), (2, some (.box (.roI t.s))), (3, some (.box (.roI t.l))), (4, some (.box (.int .i64 t.e)))]) [] ⟨0, [], [], 0⟩ (hit (fun t => t.i) _ _ fun t h => h.1) ⟨Nat.zero_le _, ⟨rfl, rfl, rfl⟩, fun j hj => absurd hj (Nat.not_lt_zero j)⟩ rfl rfl rfl rfl rfl rfl rfl rfl (fun k hk => by cases hk)
    (fun t k B _ hk => Zhi (M := 33) (l := [(28, some (.mp es clk)), (29, some (.box (.own 28))), (2, some (.box (.roI t.s))), (3, some (.box (.roI t.l))), (4, some (.box (.int .i64 t.e)))]) ⟨⟨rfl, trivial⟩, ⟨rfl, rfl⟩, ⟨rfl, rfl⟩, ⟨rfl, rfl⟩, ⟨rfl, rfl⟩, trivial⟩ k B hk) ?_ ?_ ?_
  · rintro lp ⟨i, s, l, e⟩ li ⟨hi, ⟨hs, hl', he⟩, hno⟩ hg hL
    dsimp only at hi hs hl' he hno hg hL ⊢
    subst hs hl' he
    obtain ⟨hb1, hb2⟩ := hkl i hg
    obtain ⟨hpb, _⟩ := (hbk _ hb1).1 hb2
    obtain ⟨L1, r, hli, hR1, hB1⟩ := hL
    generalize hbb : KL.getD i 0 = b at *
    refine Zas ?_
    first | (refine Zaf htb hmz Zbc (fun _ => false) rfl rfl ?_; intro m' e' l' ob h; simp only [zE0, zE1, zE2, zE3, zE4, zE5, evp, evx, ev1, evLoad, evStore, evBin, isBoolK, forall_const, z38, tb, Nat.reduceAdd, Nat.reduceSub, Nat.reduceMul, Nat.reduceEqDiff, Nat.reduceLeDiff, Nat.reduceLT, Nat.reduceBEq, Nat.reduceBNe, ↓reduceIte, reduceIte, spBk, chkS, badS] at h; obtain ⟨rfl, rfl, rfl, rfl⟩ := h; refine ⟨?_, ?_⟩)
          | (refine Zag hmo htb hmz Zbc (fun _ => false) rfl rfl (by kernel_rfl) ?_; intro m' e' l' ob h; simp only [zE0, zE1, zE2, zE3, zE4, zE5, evp, evx, ev1, evLoad, evStore, evBin, isBoolK, forall_const, z38, tb, Nat.reduceAdd, Nat.reduceSub, Nat.reduceMul, Nat.reduceEqDiff, Nat.reduceLeDiff, Nat.reduceLT, Nat.reduceBEq, Nat.reduceBNe, ↓reduceIte, reduceIte, spBk, chkS, badS] at h; obtain ⟨rfl, rfl, rfl, rfl⟩ := h; refine ⟨?_, ?_⟩)
    · first | ((with_reducible refine Ob.mk ?_); first | exact trivial | (intros; omega) | ((repeat' first | apply And.intro | (intro hg; have hg' := hg; try simp only [zH] at hg')) <;> first | assumption | omega | (simp only [zH]; omega))) | skip
    refine Zac ?_
    first | (refine Zaf htb hmz Zbc (fun _ => false) rfl rfl ?_; intro m' e' l' ob h; simp only [zE0, zE1, zE2, zE3, zE4, zE5, evp, evx, ev1, evLoad, evStore, evBin, isBoolK, forall_const, z38, tb, Nat.reduceAdd, Nat.reduceSub, Nat.reduceMul, Nat.reduceEqDiff, Nat.reduceLeDiff, Nat.reduceLT, Nat.reduceBEq, Nat.reduceBNe, ↓reduceIte, reduceIte, spBk, chkS, badS] at h; obtain ⟨rfl, rfl, rfl, rfl⟩ := h; refine ⟨?_, ?_⟩)
          | (refine Zag hmo htb hmz Zbc (fun _ => false) rfl rfl (by kernel_rfl) ?_; intro m' e' l' ob h; simp only [zE0, zE1, zE2, zE3, zE4, zE5, evp, evx, ev1, evLoad, evStore, evBin, isBoolK, forall_const, z38, tb, Nat.reduceAdd, Nat.reduceSub, Nat.reduceMul, Nat.reduceEqDiff, Nat.reduceLeDiff, Nat.reduceLT, Nat.reduceBEq, Nat.reduceBNe, ↓reduceIte, reduceIte, spBk, chkS, badS] at h; obtain ⟨rfl, rfl, rfl, rfl⟩ := h; refine ⟨?_, ?_⟩)
    · first | ((with_reducible refine Ob.mk ?_); first | exact trivial | (intros; omega) | ((repeat' first | apply And.intro | (intro hg; have hg' := hg; try simp only [zH] at hg')) <;> first | assumption | omega | (simp only [zH]; omega))) | skip
    refine ⟨rfl, ?_⟩
    have hhas := hM.has b
    repeat' first
      | with_reducible first | refine Zas ?_ | refine Zao ?_ | refine Zac ?_ | refine Zad ?_ | refine Zai ?_ | refine Zaq ?_ | refine Zah ?_ | refine Zak ?_ | refine Zar ?_ | refine Zat ?_ | refine Zap ?_ | refine Zam ?_ | refine Zaa ?_ | refine Zae ?_ | refine Zab ?_ | refine Zal ?_
      | ((with_reducible refine Zaj ?_ ?_); exact rfl)
      | ((with_reducible refine Zau ?_); refine Zan rfl ?_ ?_ <;> intro hb <;> (try simp only [zH] at hb))
      | ((with_reducible refine Zav 11 ?_ ?_); (· exact rfl); (with_reducible refine Zav 12 ?_ ?_); (· exact rfl); (first | refine Zaf htb hmz Zbc (fun _ => false) rfl rfl ?_ | refine Zag hmo htb hmz Zbc (fun _ => false) rfl rfl (by kernel_rfl) ?_); intro m' e' l' ob h; simp only [zE0, zE1, zE2, zE3, zE4, zE5, evp, evx, ev1, evLoad, evStore, evBin, isBoolK, forall_const, z38, tb, Nat.reduceAdd, Nat.reduceSub, Nat.reduceMul, Nat.reduceEqDiff, Nat.reduceLeDiff, Nat.reduceLT, Nat.reduceBEq, Nat.reduceBNe, ↓reduceIte, reduceIte, spBk, chkS, badS] at h; obtain ⟨rfl, rfl, rfl, rfl⟩ := h; refine ⟨?_, ?_⟩)
      | ((with_reducible refine Ob.mk ?_); first | exact trivial | (intros; omega) | ((repeat' first | apply And.intro | (intro hg; have hg' := hg; try simp only [zH] at hg')) <;> first | assumption | omega | (simp only [zH]; omega)))
    · have hbn : b = n := by omega
      subst hbn
      repeat' first
        | with_reducible first | refine Zas ?_ | refine Zao ?_ | refine Zac ?_ | refine Zad ?_ | refine Zai ?_ | refine Zaq ?_ | refine Zah ?_ | refine Zak ?_ | refine Zar ?_ | refine Zat ?_ | refine Zap ?_ | refine Zam ?_ | refine Zaa ?_ | refine Zae ?_ | refine Zab ?_ | refine Zal ?_
        | ((with_reducible refine Zaj ?_ ?_); exact rfl)
        | ((with_reducible refine Zau ?_); refine Zan rfl ?_ ?_ <;> intro hb <;> (try simp only [zH] at hb))
        | ((with_reducible refine Za0 ?_); (first | refine Zaf htb hmz Zbc (fun _ => false) rfl rfl ?_ | refine Zag hmo htb hmz Zbc (fun _ => false) rfl rfl (by kernel_rfl) ?_); intro m' e' l' ob h; simp only [zE0, zE1, zE2, zE3, zE4, zE5, evp, evx, ev1, evLoad, evStore, evBin, isBoolK, forall_const, z38, tb, Nat.reduceAdd, Nat.reduceSub, Nat.reduceMul, Nat.reduceEqDiff, Nat.reduceLeDiff, Nat.reduceLT, Nat.reduceBEq, Nat.reduceBNe, ↓reduceIte, reduceIte, spBk, chkS, badS] at h; obtain ⟨rfl, rfl, rfl, rfl⟩ := h; refine ⟨?_, ?_⟩)
        | ((with_reducible refine Ob.mk ?_); first | exact trivial | (intros; omega) | ((repeat' first | apply And.intro | (intro hg; have hg' := hg; try simp only [zH] at hg')) <;> first | assumption | omega | (simp only [zH]; omega)))
      refine ⟨_, ⟨i, [(b : Int)], li, 0⟩, [], rfl, ?_, .inr ⟨rfl, rfl, ⟨i, hg, .inl hbb⟩, [b], r, rfl, hli, brk1 (pr := fun v => p.getD v 0) hR1 hB1 hpb⟩⟩
      (refine ⟨rfl, ?_, ?_⟩ <;> simp only [zE0, zE1, zE2, zE3, zE4, zE5, evp, evx, ev1, evLoad, evStore, evBin, isBoolK, forall_const, z38, tb, Nat.reduceAdd, Nat.reduceSub, Nat.reduceMul, Nat.reduceEqDiff, Nat.reduceLeDiff, Nat.reduceLT, Nat.reduceBEq, Nat.reduceBNe, ↓reduceIte, reduceIte, spBk, chkS, badS, zI])
    have hbn : b ≠ n := by omega
    clear hb
    repeat' first
      | with_reducible first | refine Zas ?_ | refine Zao ?_ | refine Zac ?_ | refine Zad ?_ | refine Zai ?_ | refine Zaq ?_ | refine Zah ?_ | refine Zak ?_ | refine Zar ?_ | refine Zat ?_ | refine Zap ?_ | refine Zam ?_ | refine Zaa ?_ | refine Zae ?_ | refine Zab ?_ | refine Zal ?_
      | ((with_reducible refine Zaj ?_ ?_); exact rfl)
      | ((with_reducible refine Zau ?_); refine Zan rfl ?_ ?_ <;> intro hb <;> (try simp only [zH] at hb))
      | ((with_reducible refine Zav 14 ?_ ?_); (· exact rfl); (first | refine Zaf htb hmz Zbc (fun _ => false) rfl rfl ?_ | refine Zag hmo htb hmz Zbc (fun _ => false) rfl rfl (by kernel_rfl) ?_); intro m' e' l' ob h; simp only [zE0, zE1, zE2, zE3, zE4, zE5, evp, evx, ev1, evLoad, evStore, evBin, isBoolK, forall_const, z38, tb, Nat.reduceAdd, Nat.reduceSub, Nat.reduceMul, Nat.reduceEqDiff, Nat.reduceLeDiff, Nat.reduceLT, Nat.reduceBEq, Nat.reduceBNe, ↓reduceIte, reduceIte, spBk, chkS, badS] at h; obtain ⟨rfl, rfl, rfl, rfl⟩ := h; refine ⟨?_, ?_⟩)
      | ((with_reducible refine Ob.mk ?_); first | exact trivial | (intros; omega) | ((repeat' first | apply And.intro | (intro hg; have hg' := hg; try simp only [zH] at hg')) <;> first | assumption | omega | (simp only [zH]; omega)))
    · have hiL : b ∈ L.map Prod.fst := of_decide_eq_true (hhas.symm.trans hb)
      obtain ⟨r2, hB2, hbf⟩ := back_det (clk := clk) hn hE hM hiL
      refine awp_callmid hmo htb hmz Zbc (fun i => Nat.beq i 1 || Nat.beq i 6) [_, _, _, _, _] [_, _, _, _, _] 28 [(58, .own 28), (59, .int .i64 n), (60, .int .i64 b)] rfl rfl rfl rfl rfl rfl hbf rfl rfl (fun env h => ?_) rfl rfl (fun _ => trivial) rfl (by kernel_rfl) (by kernel_rfl) ?_
      · have e1 : env 58 = _ := h _ (List.mem_cons_self)
        have e2 : env 59 = _ := h _ (List.mem_cons_of_mem _ List.mem_cons_self)
        have e3 : env 60 = _ := h _ (List.mem_cons_of_mem _ (List.mem_cons_of_mem _ List.mem_cons_self))
        show AV.cons (env 58) (.cons (env 59) (.cons (env 60) .nil)) = _
        rw [e1, e2, e3]; rfl
      intro m1 e1 l1 ob1 h
      simp only [zE0, zE1, zE2, zE3, zE4, zE5, evp, evx, ev1, evLoad, evStore, evBin, isBoolK, forall_const, z38, tb, Nat.reduceAdd, Nat.reduceSub, Nat.reduceMul, Nat.reduceEqDiff, Nat.reduceLeDiff, Nat.reduceLT, Nat.reduceBEq, Nat.reduceBNe, ↓reduceIte, reduceIte, spBk, chkS, badS] at h
      obtain ⟨rfl, rfl, rfl, rfl⟩ := h
      refine ⟨?_, ⟨fun p hp => ?_, rfl⟩, ?_⟩
      · first | ((with_reducible refine Ob.mk ?_); first | exact trivial | (intros; omega) | ((repeat' first | apply And.intro | (intro hg; have hg' := hg; try simp only [zH] at hg')) <;> first | assumption | omega | (simp only [zH]; omega))) | skip
      · simp only [List.mem_cons, List.not_mem_nil, or_false] at hp
        rcases hp with rfl | rfl | rfl <;> rfl
      intro m2 e2 l2 ob2 h
      simp only [List.length_cons, List.length_nil, Nat.zero_add, Nat.reduceAdd, zE0, zE1, zE2, zE3, zE4, zE5, evp, evx, ev1, evLoad, evStore, evBin, isBoolK, forall_const, z38, tb, Nat.reduceAdd, Nat.reduceSub, Nat.reduceMul, Nat.reduceEqDiff, Nat.reduceLeDiff, Nat.reduceLT, Nat.reduceBEq, Nat.reduceBNe, ↓reduceIte, reduceIte, spBk, chkS, badS] at h
      obtain ⟨rfl, rfl, rfl, rfl⟩ := h
      refine ⟨?_, ?_⟩
      · refine Ob.mk ?_
        obtain ⟨r', e, hw'⟩ := Zhg hB2
        have := (Zfz hE hw').1
        have hcl : (castL r2).length = r2.length := List.length_map ..
        rw [← e] at this
        omega
      refine Zac ?_
      repeat' first
        | with_reducible first | refine Zas ?_ | refine Zao ?_ | refine Zac ?_ | refine Zad ?_ | refine Zai ?_ | refine Zaq ?_ | refine Zah ?_ | refine Zak ?_ | refine Zar ?_ | refine Zat ?_ | refine Zap ?_ | refine Zam ?_ | refine Zaa ?_ | refine Zae ?_ | refine Zab ?_ | refine Zal ?_
        | ((with_reducible refine Zaj ?_ ?_); exact rfl)
        | ((with_reducible refine Zau ?_); refine Zan rfl ?_ ?_ <;> intro hb <;> (try simp only [zH] at hb))
        | ((with_reducible refine Za0 ?_); (first | refine Zaf htb hmz Zbc (fun _ => false) rfl rfl ?_ | refine Zag hmo htb hmz Zbc (fun _ => false) rfl rfl (by kernel_rfl) ?_); intro m' e' l' ob h; simp only [zE0, zE1, zE2, zE3, zE4, zE5, evp, evx, ev1, evLoad, evStore, evBin, isBoolK, forall_const, z38, tb, Nat.reduceAdd, Nat.reduceSub, Nat.reduceMul, Nat.reduceEqDiff, Nat.reduceLeDiff, Nat.reduceLT, Nat.reduceBEq, Nat.reduceBNe, ↓reduceIte, reduceIte, spBk, chkS, badS] at h; obtain ⟨rfl, rfl, rfl, rfl⟩ := h; refine ⟨?_, ?_⟩)
        | ((with_reducible refine Ob.mk ?_); first | exact trivial | (intros; omega) | ((repeat' first | apply And.intro | (intro hg; have hg' := hg; try simp only [zH] at hg')) <;> first | assumption | omega | (simp only [zH]; omega)))
      refine ⟨_, ⟨i, castL (n :: r2), li, 0⟩, [], rfl, ?_, .inr ⟨rfl, rfl, ⟨i, hg, .inr (by rw [hbb]; exact hiL)⟩, n :: r2, r, rfl, hli, brk2 (pr := fun v => p.getD v 0) hE hB2 hbn hR1 hB1 hpb⟩⟩
      (refine ⟨rfl, ?_, ?_⟩ <;> simp only [zE0, zE1, zE2, zE3, zE4, zE5, evp, evx, ev1, evLoad, evStore, evBin, isBoolK, forall_const, z38, tb, Nat.reduceAdd, Nat.reduceSub, Nat.reduceMul, Nat.reduceEqDiff, Nat.reduceLeDiff, Nat.reduceLT, Nat.reduceBEq, Nat.reduceBNe, ↓reduceIte, reduceIte, spBk, chkS, badS, zI])
      rfl
    · have hbL : b ∉ L.map Prod.fst := of_decide_eq_false (hhas.symm.trans (by simpa using hb))
      refine ⟨_, ⟨i + 1, [], [], 0⟩, [], rfl, ?_, .inl ⟨rfl, ⟨hg, ⟨rfl, rfl, rfl⟩, fun j hj => ?_⟩, rfl⟩⟩
      · (refine ⟨rfl, ?_, ?_⟩ <;> simp only [zE0, zE1, zE2, zE3, zE4, zE5, evp, evx, ev1, evLoad, evStore, evBin, isBoolK, forall_const, z38, tb, Nat.reduceAdd, Nat.reduceSub, Nat.reduceMul, Nat.reduceEqDiff, Nat.reduceLeDiff, Nat.reduceLT, Nat.reduceBEq, Nat.reduceBNe, ↓reduceIte, reduceIte, spBk, chkS, badS, zI])
      · rcases Nat.lt_succ_iff_lt_or_eq.1 hj with h | rfl
        · exact hno j h
        · rw [hbb]; exact ⟨hbn, hbL⟩
  · rintro ⟨i, s, l, e⟩ ⟨hi, ⟨hs, hl', he⟩, hno⟩ hfin
    dsimp only at hi hs hl' he hno hfin ⊢
    subst hs hl' he hfin
    have htr : (wnX (fun a b => b ∈ nxN o x pl c a) o.length KL KL.length).getD n false = true := by
      cases h : (wnX (fun a b => b ∈ nxN o x pl c a) o.length KL KL.length).getD n false with
      | true => rfl
      | false =>
        obtain ⟨j, hj, hr⟩ := (hwn _).1 h
        obtain ⟨h1, h2⟩ := hno j hj
        rcases hr.uncons with e | ⟨t, h3, h4⟩
        · exact absurd e.symm h1
        · exact absurd ((hre _).2 ⟨t, ⟨h3, rfl⟩, h4.mono fun a b h => ⟨h, rfl⟩⟩) h2
    repeat' first
      | with_reducible first | refine Zas ?_ | refine Zao ?_ | refine Zac ?_ | refine Zad ?_ | refine Zai ?_ | refine Zaq ?_ | refine Zah ?_ | refine Zak ?_ | refine Zar ?_ | refine Zat ?_ | refine Zap ?_ | refine Zam ?_ | refine Zaa ?_ | refine Zae ?_ | refine Zab ?_ | refine Zal ?_
      | ((with_reducible refine Zaj ?_ ?_); exact rfl)
      | ((with_reducible refine Zau ?_); refine Zan rfl ?_ ?_ <;> intro hb <;> (try simp only [zH] at hb))
      | ((with_reducible refine Za0 ?_); (first | refine Zaf htb hmz Zbc (fun _ => false) rfl rfl ?_ | refine Zag hmo htb hmz Zbc (fun _ => false) rfl rfl (by kernel_rfl) ?_); intro m' e' l' ob h; simp only [zE0, zE1, zE2, zE3, zE4, zE5, evp, evx, ev1, evLoad, evStore, evBin, isBoolK, forall_const, z38, tb, Nat.reduceAdd, Nat.reduceSub, Nat.reduceMul, Nat.reduceEqDiff, Nat.reduceLeDiff, Nat.reduceLT, Nat.reduceBEq, Nat.reduceBNe, ↓reduceIte, reduceIte, spBk, chkS, badS] at h; obtain ⟨rfl, rfl, rfl, rfl⟩ := h; refine ⟨?_, ?_⟩)
      | ((with_reducible refine Ob.mk ?_); first | exact trivial | (intros; omega) | ((repeat' first | apply And.intro | (intro hg; have hg' := hg; try simp only [zH] at hg')) <;> first | assumption | omega | (simp only [zH]; omega)))
    refine ⟨_, _, rfl, rfl, fun k hk => by rw [List.mem_singleton.1 hk]; rfl, (by show List.Nodup [33]; decide), Nat.zero_le _, Zcw ⟨0, resV [.roI [], .roI [], .int .i64 5], []⟩ [] ⟨[], [], 5, .inr ⟨⟨Int.natCast_nonneg _, by omega⟩, .inl ⟨htr, rfl, rfl, rfl⟩⟩, rfl⟩ rfl ?_ trivial⟩
    exact Zfo (Zb3 Zco (Zb3 Zco (Zbp rfl)))
  · rintro ⟨i, s, l, e⟩ ⟨he, ⟨j, hj, hjn⟩, S, Lp, hs, hl', hB⟩
    dsimp only at he hs hl' ⊢
    subst he hs hl'
    have hfa : (wnX (fun a b => b ∈ nxN o x pl c a) o.length KL KL.length).getD n false = false := by
      refine (hwn _).2 ⟨j, hj, ?_⟩
      rcases hjn with e | h
      · rw [e]; exact .refl _
      · obtain ⟨t, h1, h2⟩ := (hre _).1 h
        exact Rch.cons h1.1 (h2.mono fun a b h => h.1)
    repeat' first
      | with_reducible first | refine Zas ?_ | refine Zao ?_ | refine Zac ?_ | refine Zad ?_ | refine Zai ?_ | refine Zaq ?_ | refine Zah ?_ | refine Zak ?_ | refine Zar ?_ | refine Zat ?_ | refine Zap ?_ | refine Zam ?_ | refine Zaa ?_ | refine Zae ?_ | refine Zab ?_ | refine Zal ?_
      | ((with_reducible refine Zaj ?_ ?_); exact rfl)
      | ((with_reducible refine Zau ?_); refine Zan rfl ?_ ?_ <;> intro hb <;> (try simp only [zH] at hb))
      | ((with_reducible refine Za0 ?_); (first | refine Zaf htb hmz Zbc (fun _ => false) rfl rfl ?_ | refine Zag hmo htb hmz Zbc (fun _ => false) rfl rfl (by kernel_rfl) ?_); intro m' e' l' ob h; simp only [zE0, zE1, zE2, zE3, zE4, zE5, evp, evx, ev1, evLoad, evStore, evBin, isBoolK, forall_const, z38, tb, Nat.reduceAdd, Nat.reduceSub, Nat.reduceMul, Nat.reduceEqDiff, Nat.reduceLeDiff, Nat.reduceLT, Nat.reduceBEq, Nat.reduceBNe, ↓reduceIte, reduceIte, spBk, chkS, badS] at h; obtain ⟨rfl, rfl, rfl, rfl⟩ := h; refine ⟨?_, ?_⟩)
      | ((with_reducible refine Ob.mk ?_); first | exact trivial | (intros; omega) | ((repeat' first | apply And.intro | (intro hg; have hg' := hg; try simp only [zH] at hg')) <;> first | assumption | omega | (simp only [zH]; omega)))
    refine ⟨_, _, rfl, rfl, fun k hk => by rw [List.mem_singleton.1 hk]; rfl, (by show List.Nodup [33]; decide), Nat.zero_le _, Zcw ⟨0, resV [.roI (castL S), .roI (castL Lp), .int .i64 0], []⟩ [] ⟨castL S, castL Lp, 0, .inr ⟨⟨Int.natCast_nonneg _, by omega⟩, .inr ⟨hfa, rfl, S, Lp, rfl, rfl, hB⟩⟩, rfl⟩ rfl (Zbp rfl) trivial⟩
end Go.Proofs.Ytbcghiagomkadaa.Cal
namespace Go.Proofs.Ytbcghiagomkadaa.Cal
open Go Pl
/-- What the statement asks of a play. -/
structure BrkG (g : Gm) (pl : Int) (c : List Int) (n : Nat) (s l : List Int) : Prop where
  is : isP g s l = true
  won : wonP g l = 1 - pl
  len : s.length + l.length ≤ 2 * g.own.length
  lp : 0 < l.length
  b : ∀ i, i < (s ++ l).length → 0 ≤ (s ++ l).getD i 0 ∧ (s ++ l).getD i 0 < (g.own.length : Int)
  hd : (s ++ l).getD 0 0 = n
  ch : ∀ i : Nat, i < (s ++ l).length → g.own.getD ((s ++ l).getD i 0).toNat 0 = pl → aftP (s ++ l) l i = c.getD ((s ++ l).getD i 0).toNat 0
theorem Zcy {l : List Nat} {i : Nat} : (castL l).getD i 0 = ((l.getD i 0 : Nat) : Int) := by
  unfold castL
  simp only [List.getD_eq_getElem?_getD, List.getElem?_map]
  cases l[i]? <;> rfl
theorem foldl_mx {f : Int → Int} : ∀ {l : List Int} {a M : Int}, a ≤ M → (∀ v, v ∈ l → f v ≤ M) → (a = M ∨ ∃ v, v ∈ l ∧ f v = M) → l.foldl (fun a v => max a (f v)) a = M
  | [], a, M, _, _, h => by
    rcases h with h | ⟨v, h, _⟩
    · exact h
    · cases h
  | v :: l, a, M, h1, h2, h3 => by
    have hv := h2 v List.mem_cons_self
    refine foldl_mx (l := l) (by show max a (f v) ≤ M; omega) (fun v hv => h2 v (List.mem_cons_of_mem _ hv)) ?_
    rcases h3 with h | ⟨u, h, e⟩
    · exact .inl (by show max a (f v) = M; omega)
    · rcases List.mem_cons.1 h with rfl | h
      · exact .inl (by show max a (f u) = M; omega)
      · exact .inr ⟨u, h, e⟩
theorem brkG_of {o p : List Int} {x : List (List Int)} {pl : Int} {c : List Int} {n : Nat} {S L : List Nat} (hv : validB ⟨o, p, x⟩ = true) (hp : pl = 0 ∨ pl = 1) (hf : fullB ⟨o, p, x⟩ pl c = true) (h : BrkOK (nxN o x pl c) (fun v => p.getD v 0) pl o.length n S L) : BrkG ⟨o, p, x⟩ pl c n (castL S) (castL L) := by
  have hG := gok (validB_iff.1 hv)
  obtain ⟨hcl, hf2⟩ := of_decide_eq_true hf
  have hc0 := (Zgj hv hf).2
  have hal : castL S ++ castL L = castL (S ++ L) := (List.map_append ..).symm
  have hll : (castL (S ++ L)).length = (S ++ L).length := List.length_map ..
  have hLl : (castL L).length = L.length := List.length_map ..
  have hSl : (castL S).length = S.length := List.length_map ..
  have hL0 : 0 < L.length := List.length_pos_iff.2 h.ne
  have hb : ∀ i, i < (S ++ L).length → (S ++ L).getD i 0 < o.length := fun i hi => h.lt _ (by
    rw [List.getD_eq_getElem?_getD, List.getElem?_eq_getElem hi]; exact List.getElem_mem ..)
  have haf : ∀ i : Nat, i < (S ++ L).length → ∃ b : Nat, aftP (castL (S ++ L)) (castL L) i = b ∧ b ∈ nxN o x pl c ((S ++ L).getD i 0) := by
    intro i hi
    have e1 : (S ++ L ++ [L.headD 0])[i]? = some ((S ++ L).getD i 0) := by
      rw [List.getElem?_append_left hi, List.getD_eq_getElem?_getD, List.getElem?_eq_getElem hi]; rfl
    unfold aftP
    rw [hll]
    by_cases h1 : i + 1 < (S ++ L).length
    · rw [if_pos (by omega), show ((i : Int) + 1).toNat = i + 1 by omega, Zcy]
      refine ⟨_, rfl, Zh1 h.ch i _ _ e1 ?_⟩
      rw [List.getElem?_append_left h1, List.getD_eq_getElem?_getD, List.getElem?_eq_getElem h1]; rfl
    · rw [if_neg (by omega), Zcy]
      refine ⟨_, rfl, Zh1 h.ch i _ _ e1 ?_⟩
      have e2 : i + 1 = (S ++ L).length := by omega
      rw [List.getElem?_append_right (by omega), e2, Nat.sub_self]
      cases L with
      | nil => exact absurd rfl h.ne
      | cons a L => rfl
  obtain ⟨s', hs'⟩ := h.hd
  refine ⟨?_, ?_, ?_, by rw [hLl]; exact hL0, ?_, ?_, ?_⟩
  · refine decide_eq_true ⟨fun e => ?_, ?_, ?_⟩
    · exact h.ne (List.map_eq_nil_iff.1 e)
    · intro i hi
      rw [hal] at hi ⊢
      rw [hll] at hi
      rw [Zcy]
      have := hb i hi
      show (0 : Int) ≤ _ ∧ _ < (o.length : Int)
      omega
    · intro i hi
      rw [hal] at hi ⊢
      rw [hll] at hi
      obtain ⟨b, e, hbn⟩ := haf i hi
      have hbi := hb i hi
      rw [e, Zcy, Int.toNat_natCast]
      show (b : Int) ∈ x.getD ((S ++ L).getD i 0) []
      obtain ⟨z, hz, rfl⟩ := List.mem_map.1 hbn
      unfold nxF at hz
      split at hz
      · rename_i ho
        have ho : o.getD ((S ++ L).getD i 0) 0 = pl := ho
        rw [List.mem_singleton.1 hz, Int.toNat_of_nonneg (hc0 _ hbi ho).1]
        exact (hf2 _ hbi).1 ho
      · have hz : z ∈ x.getD ((S ++ L).getD i 0) [] := hz
        obtain ⟨k, hk, rfl⟩ := Zc9 hz
        rw [Int.toNat_of_nonneg (hG.at' _ hbi k hk).1]
        exact hz
  · obtain ⟨w, hw, hwm, hwp⟩ := h.top
    have hwn : w < o.length := h.lt w (List.mem_append_right _ hw)
    have e : (castL L).foldl (fun a v => max a (p.getD v.toNat 0)) 0 = p.getD w 0 := by
      refine foldl_mx (hG.pri w hwn).1 (fun v hv => ?_) (.inr ⟨(w : Int), List.mem_map.2 ⟨w, hw, rfl⟩, ?_⟩)
      · obtain ⟨z, hz, rfl⟩ := List.mem_map.1 hv
        rw [Int.toNat_natCast]; exact hwm z hz
      · rw [Int.toNat_natCast]
    show (castL L).foldl (fun a v => max a (p.getD v.toNat 0)) 0 % 2 = 1 - pl
    rw [e]
    exact om1 hp hwp (Int.emod_two_eq _)
  · rw [hSl, hLl]; exact h.len
  · intro i hi
    rw [hal] at hi ⊢
    rw [hll] at hi
    rw [Zcy]
    have := hb i hi
    show (0 : Int) ≤ _ ∧ _ < (o.length : Int)
    omega
  · rw [hal, Zcy, hs']; rfl
  · intro i hi ho
    rw [hal] at hi ho ⊢
    rw [hll] at hi
    obtain ⟨b, e, hbn⟩ := haf i hi
    rw [Zcy, Int.toNat_natCast] at ho ⊢
    rw [e]
    have ho : o.getD ((S ++ L).getD i 0) 0 = pl := ho
    obtain ⟨z, hz, rfl⟩ := List.mem_map.1 hbn
    unfold nxF at hz
    rw [if_pos (show (Gm.mk o [] x).own.getD ((S ++ L).getD i 0) 0 = pl from ho)] at hz
    rw [List.mem_singleton.1 hz, Int.toNat_of_nonneg (hc0 _ (hb i hi) ho).1]
end Go.Proofs.Ytbcghiagomkadaa.Cal
