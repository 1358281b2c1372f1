/- Own texts, merged. -/
import Derived.Deep.Slices
import Derived.Lib.SmallJoins
import Derived.ProofKit
import Derived.OpenShut
import Derived.ShutString
import Derived.ChangeOld
import Derived.Below
import Derived.SizedLaws
import Derived.RangeFuncIn
import Derived.RangeFuncRecord
import Derived.RecoverIn
import Derived.RangeFuncLeaves
import Derived.Test.YtdhoadhkkecjjaaDoorS12
set_option linter.unusedVariables false
set_option linter.unusedSimpArgs false
open Nat (reduceAdd reduceSub reduceMul reduceEqDiff reduceLeDiff reduceLT)
namespace Go.Proofs.YtdhoadhkkecjjaaDoor.Cal
open Go
theorem two_set {w : World} {b : Nat} {o1 o2 x y : Value} {T : Nat} (h : w.heap[b]? = some (.cells #[o1, o2] T (0, 0))) :
    w.frozen? ⟨b, 0, none⟩ = false ∧ w.cell? ⟨b, 0, none⟩ = some o1 ∧ (w.setCell ⟨b, 0, none⟩ x).heap[b]? = some (.cells #[x, o2] T (0, 0)) ∧ (w.setCell ⟨b, 0, none⟩ x).cell? ⟨b, 1, none⟩ = some o2 ∧ (w.setCell ⟨b, 0, none⟩ x).frozen? ⟨b, 1, none⟩ = false ∧
      ((w.setCell ⟨b, 0, none⟩ x).setCell ⟨b, 1, none⟩ y).heap[b]? = some (.cells #[x, y] T (0, 0)) := by
  have hlt := lt_of_block h
  have hs : ∀ {w : World} {cs : Array Value} {i : Nat} {v : Value}, w.heap[b]? = some (.cells cs T (0, 0)) → (w.setCell ⟨b, i, none⟩ v).heap[b]? = some (.cells (cs.setIfInBounds i v) T (0, 0)) := by
    intro w cs i v h
    have hlt := lt_of_block h
    have h' : w.heap[b] = .cells cs T (0, 0) := by simpa [Array.getElem?_eq_getElem hlt] using h
    show (w.heap.modify b _)[b]? = _
    rw [Array.getElem?_eq_getElem (by simpa using hlt), Array.getElem_modify_self, h']
    rfl
  have h1 : (w.setCell ⟨b, 0, none⟩ x).heap[b]? = some (.cells #[x, o2] T (0, 0)) := hs h
  refine ⟨?_, ?_, h1, ?_, ?_, hs h1⟩
  · simp [World.frozen?, h]
  · simp [World.cell?, h]
  · simp [World.cell?, h1]
  · simp [World.frozen?, h1]
def glA : List Value → (Nat → Prop) → World → (Nat → Prop) → Prop := fun ys Z w F => (∀ y, ¬ F y) ∧ Z 0 ∧ w.cell? ⟨0, 0, none⟩ = some (.iface 105 (.agg #[.pointer (some ⟨1, 68, none⟩)]))
def glB : Blk := .sem [] glA
def ptA (t : Nat) : List Value → (Nat → Prop) → World → (Nat → Prop) → Prop := fun ys Z w F => (∀ y, ¬ F y) ∧ ∃ v, ys = [.iface t v, v]
theorem Zeq {P : Program} {o : Oper} {t k : Nat} {x : Operand} {get : Operand → AV} (ho : o.op = .makeInterface t x) (hx : get x = .own k) (hrun : ∀ (v : Value) (w : World), (Instr.makeInterface t v).run P w = .ok (.iface t v) w) (kn : Nat) : OpSem P o get (.own kn) [] [(kn, some (.sem [kn, k] (ptA t)))] (some kn) :=
  Zez (ks := [k]) fun K Z ν w ev μ rs h1 hg hv hrd => by
    obtain ⟨rx, mx⟩ := hv x (by rw [ho]; simp [Op.operands])
    rw [hx] at rx mx
    have ek := one1 rx
    refine ⟨.iface t (ev x), ?_, rfl, fun j hj => ?_, fun Z' w' hZ hw => ⟨fun y hy => hy, ν k, by rw [ek]; rfl⟩⟩
    · simp [execOp, ho, hrun, Sem.run_bind, Result.andThen, Sem.run]
    · rw [List.mem_singleton.1 hj]; exact mx
theorem Zi7 {vals : Array Value} {a b : Value} (h : vals.toList = [a, b]) : vals = #[a, b] := by
  cases vals
  simp_all
theorem as_nil_fg : FG Tryd.prog 29 [.cst .nilIface, .own 0] [] 1 fun g => g = ⟨1, .bool false, []⟩ := by
  refine ⟨⟨Tryd.f29, by kernel_rfl, by kernel_rfl, by kernel_rfl⟩, ?_⟩
  intro K Z ν w vals h1 hr hm hrs hzk hkl
  obtain ⟨v0, _, e0, r0, v1, _, rfl, r1, e2⟩ := hr
  obtain rfl := one1 r0
  have e2 : _ = [] := e2
  rw [e2] at e0
  rw [Zi7 e0]
  refine (AsB.as_nil v1 w).mono fun e w' ⟨he, hw⟩ => ?_
  subst hw
  refine ⟨.bool false, Z, ν, .bool false, ltK 1, lkr [], he, Step.refl K Z w', h1, fun _ _ => rfl, fun k hk => by show Nat.blt k 1 = true; rw [Nat.blt_eq]; exact hk, rfl, rfl, ?_, fun b hb => hkl b (hzk b hb), _, rfl, rfl, rfl, Nat.le_refl _, rfl⟩
  rw [Zbu hzk]
  exact hrs
theorem as_hit_fg {a b c d : AV} (ha : isC a = true ∧ isAg a = false ∧ men noK a = true) (hb : isC b = true ∧ isAg b = false ∧ men noK b = true) :
    FG Tryd.prog 29 [.own 0, .own 1] [(0, some (.sem [0] (ifA 65 (.agg (.cons a (.cons b .nil)))))), (1, some (.sem [1, 2] (ptA 70))), (2, some (.box (.agg (.cons c (.cons d .nil))))), (3, some glB)] 4 fun g => g = ⟨4, .bool true, [(2, some (.box (.agg (.cons a (.cons b .nil))))), (3, some glB)]⟩ := by
  refine ⟨⟨Tryd.f29, by kernel_rfl, by kernel_rfl, by kernel_rfl⟩, ?_⟩
  intro K Z ν w vals h1 hr hm ⟨Ft, hF⟩ hzk hkl
  obtain ⟨v0, _, e0, r0, v1, _, rfl, r1, e2⟩ := hr
  obtain rfl := one1 r0
  obtain rfl := one1 r1
  have e2 : _ = [] := e2
  rw [e2] at e0
  rw [Zi7 e0]
  obtain ⟨a1, a2, a3, a4, a5⟩ := hF 0 _ rfl
  obtain ⟨b1, b2, b3, b4, b5⟩ := hF 1 _ rfl
  obtain ⟨c1, c2, ⟨q, cells, T, c3, c4, c5, c6⟩, c7, c8⟩ := hF 2 _ rfl
  obtain ⟨d1, d2, d3, d4, d5⟩ := hF 3 _ rfl
  obtain ⟨_, v, hv, rv⟩ := a3 Z w (fun _ h => h) (fun _ _ => rfl)
  obtain ⟨_, v', hv'⟩ := b3 Z w (fun _ h => h) (fun _ _ => rfl)
  obtain ⟨_, hz0, hgl⟩ := d3 Z w (fun _ h => h) (fun _ _ => rfl)
  simp only [List.map_cons, List.map_nil, List.cons.injEq, and_true] at hv hv'
  obtain ⟨e1, e3⟩ := hv'
  obtain ⟨es, ees, x, _, rfl, rx, y, _, rfl, ry, e4⟩ := rv
  have e4 : _ = [] := e4
  subst e4
  have ev : v = .agg #[x, y] := one1 ees
  have hx1 := (Zc4 (fun _ => rfl) ha.1 ha.2.1 rx).1
  have hy1 := (Zc4 (fun _ => rfl) hb.1 hb.2.1 ry).1
  obtain ⟨o1, _, ec, _, o2, _, rfl, _, e5⟩ := c5
  have e5 : _ = [] := e5
  subst e5
  have hcells : cells = #[o1, o2] := Zi7 ec
  subst hcells
  rw [hv, ev, e1, ← e3, c3]
  have hqF : Ft 2 q := (c6 q).2 rfl
  have hql := (c7 q hqF).2
  have hasW : ∀ k, k < w.heap.size → (AsB.asW w ⟨q, 0, none⟩ x y).heap[k]? = w.heap[k]? := fun k hk => by
    unfold AsB.asW
    rw [Zbl _ (by simp; omega), Zbl _ (by simp; omega), Zbl _ (by simp; omega), Zbl _ hk]
  obtain ⟨t1, t2, t3, t4, t5, t6⟩ := two_set (w := AsB.asW w ⟨q, 0, none⟩ x y) (x := x) (y := y) ((hasW q hql).trans c4)
  have t2w : w.cell? ⟨q, 0, none⟩ = some o1 := by simp [World.cell?, c4]
  refine (AsB.as_hit x y ⟨q, 0, none⟩ o1 o2 w hx1 hy1 hgl hql t2 t4 t1 t5 t2w).mono fun e w' ⟨he, hw⟩ => ?_
  have hold : ∀ k, k < w.heap.size → k ≠ q → w'.heap[k]? = w.heap[k]? := fun k hk hne => by
    rw [hw, RowKit.Below.heap_setCell _ _ _ _ hne, RowKit.Below.heap_setCell _ _ _ _ hne, hasW k hk]
  have hsz : w.heap.size ≤ w'.heap.size := by rw [hw]; simp [World.setCell]; omega
  have hZq : ∀ b, Z b → b ≠ q := fun b hb e => (c7 q hqF).1 (e ▸ hzk b hb)
  have hKq : ∀ b, K b → b ≠ q := fun b hb e => (c7 q hqF).1 (e ▸ hb)
  have hzw : ∀ b, Z b → w'.heap[b]? = w.heap[b]? := fun b hb => hold b (hkl b (hzk b hb)) (hZq b hb)
  refine ⟨.bool true, Z, ν, .bool true, ltK 4, lkr [(2, some (.box (.agg (.cons a (.cons b .nil))))), (3, some glB)], he, ⟨⟨by rw [hw]; rfl, by rw [hw]; rfl, by rw [hw]; rfl, hsz, fun b hb => hold b (hkl b hb) (hKq b hb)⟩, fun _ h => h, fun _ h => .inl h⟩, h1, fun _ _ => rfl, fun k hk => by show Nat.blt k 4 = true; rw [Nat.blt_eq]; exact hk, rfl, rfl, ?_, fun b hb => Nat.lt_of_lt_of_le (hkl b (hzk b hb)) hsz, _, rfl, rfl, rfl, Nat.le_refl _, rfl⟩
  rw [Zbu hzk]
  refine ⟨Ft, fun k B hk => ?_⟩
  rw [Za4] at hk
  have h23 : (∀ k' b', k ≠ k' → lkr [(2, some (.box (.agg (.cons a (.cons b .nil))))), (3, some glB)] k' = some b' → k = 2 ∨ k = 3 → ∀ x, Ft k x → ¬ Ft k' x) := by
    intro k' b' hne hk' h23
    rw [Za4] at hk'
    by_cases e2 : k' = 2
    · subst e2
      rcases h23 with rfl | rfl
      · exact absurd rfl hne
      · exact d5 2 _ (by decide) rfl
    · rw [if_neg e2, Za4] at hk'
      by_cases e3 : k' = 3
      · subst e3
        rcases h23 with rfl | rfl
        · exact c8 3 _ (by decide) rfl
        · exact absurd rfl hne
      · rw [if_neg e3] at hk'; cases hk'
  by_cases e2 : k = 2
  · subst e2
    rw [if_pos rfl] at hk
    cases hk
    refine ⟨rfl, by show men _ _ = true; simp only [men, Zb4 ha.2.2, Zb4 hb.2.2]; rfl, ⟨q, #[x, y], T, c3, by rw [hw]; exact t6, ?_, c6⟩, fun z hz => ⟨(c7 z hz).1, Nat.lt_of_lt_of_le (c7 z hz).2 hsz⟩, fun k' b' hne hk' => h23 k' b' hne hk' (.inl rfl)⟩
    refine ⟨x, [y], rfl, Zct ha.2.2 (Zbm (fun _ h => h) hzw rx), y, [], rfl, Zct hb.2.2 (Zbm (fun _ h => h) hzw ry), rfl⟩
  · rw [if_neg e2, Za4] at hk
    by_cases e3 : k = 3
    · subst e3
      rw [if_pos rfl] at hk
      cases hk
      refine ⟨rfl, d2, Zci (fun _ h => h) hzw (fun z hz => hold z (d4 z hz).2 fun e => c8 3 _ (by decide) rfl q hqF (e ▸ hz)) d3, fun z hz => ⟨(d4 z hz).1, Nat.lt_of_lt_of_le (d4 z hz).2 hsz⟩, fun k' b' hne hk' => h23 k' b' hne hk' (.inr rfl)⟩
    · rw [if_neg e3] at hk; cases hk
open Go Pl
def chkQ (g : Gm) (w c s l : List Int) (e : Int) : Prop := (Zbh g = false ∧ e = 1 ∧ s = [] ∧ l = []) ∨ (Zbh g = true ∧ Zb0 g w c = false ∧ e = 4 ∧ s = [] ∧ l = []) ∨
  (Zbh g = true ∧ Zb0 g w c = true ∧ solB g w c = true ∧ e = 0 ∧ s = [] ∧ l = []) ∨ (Zbh g = true ∧ Zb0 g w c = true ∧ CpOK g w c s l ∧ e = 8)
def rsA (s l : List Int) (e : Int) : AV := .tup (.cons (.agg (.cons (.roI s) (.cons (.roI l) .nil))) (.cons (.int .i64 e) .nil))
theorem mk70 (v : Value) (w : World) : (Instr.makeInterface 70 v).run Tryd.prog w = .ok (.iface 70 v) w := by kernel_rfl
noncomputable def spCk : Nat → Option Spec
  | 28 => some clmS
  | _ => none
theorem Zcf : SpOK Tryd.prog spCk := by
  intro f S h
  unfold spCk at h
  split at h
  · cases h; exact claimOf_ok
  · cases h
theorem Zaw {ρ : Nat → Nat} : renB ρ glB = glB := rfl
theorem Zay {μ : Nat → Bool} : menB μ glB ↔ True := ⟨fun _ => trivial, fun _ k hk => by cases hk⟩
theorem Zax : notD glB = true := rfl
theorem Zbk {μ : Nat → Bool} {k : Nat} {A : List Value → (Nat → Prop) → World → (Nat → Prop) → Prop} : menB μ (.sem [k] A) ↔ μ k = true := ⟨fun h => h k List.mem_cons_self, fun h j hj => by rw [List.mem_singleton.1 hj]; exact h⟩
theorem Zbj {μ : Nat → Bool} {k k2 : Nat} {A : List Value → (Nat → Prop) → World → (Nat → Prop) → Prop} : menB μ (.sem [k, k2] A) ↔ μ k = true ∧ μ k2 = true := ⟨fun h => ⟨h k List.mem_cons_self, h k2 (by simp)⟩, fun h j hj => by
  rcases List.mem_cons.1 hj with rfl | hj
  · exact h.1
  · rw [List.mem_singleton.1 hj]; exact h.2⟩
theorem memAll1 : ∀ (k : Nat), k ∈ [0] → decide (k < 4) = true := by decide
theorem memAll2 : ∀ (k : Nat), k ∈ [1, 2] → decide (k < 4) = true := by decide
set_option maxRecDepth 4000 in
set_option maxHeartbeats 4000000 in
theorem Zfw {o p w c : List Int} {x : List (List Int)} :
    FG Tryd.prog 9 [.agg (.cons (.roI o) (.cons (.roI p) (.cons (.roII x) .nil))), .agg (.cons (.roI w) (.cons (.roI c) .nil))] [(0, some glB)] 1 fun g => ∃ s l e, chkQ ⟨o, p, x⟩ w c s l e ∧ g = ⟨1, rsA s l e, [(0, some glB)]⟩ := by
  refine Zho htb (fn := Tryd.f9) (by kernel_rfl) (by kernel_rfl) rfl (Nat.le_of_ble_eq_true rfl) fun hl => ?_
  simp only [lenP, mkL, lim] at hl
  have hor := clm_or ⟨o, p, x⟩ w c
  have hz : ∀ e, Imp (.tup (.cons (.agg (.cons (.cst (.slice none 0 0)) (.cons (.cst (.slice none 0 0)) .nil))) (.cons (.int .i64 e) .nil))) (rsA [] [] e) := fun e => Zg9 (Zb5 (Zgf (Zb5 Zcy (Zb5 Zcy (Zbz rfl)))) (Zbz rfl))
  repeat' first
    | with_reducible first | apply Zar | apply Zan | apply Zaa | apply Zad | apply Zah | apply Zao | apply Zag | apply Zaj | apply Zaq | apply Zas | apply Zap | apply Zal | apply Zac | apply Zak
    | ((with_reducible refine Zai ?_ ?_); exact rfl) | ((with_reducible refine Zat ?_); refine Zam rfl ?_ ?_ <;> intro hb <;> (try simp only [zH] at hb)) | ((with_reducible refine Zau 2 ?_ ?_); (· exact rfl); (first | refine Zaf htb hmz Zcf fF rfl rfl ?_ | refine Zae hmo htb hmz Zcf fF rfl rfl (by kernel_rfl) ?_); intro _ _ _ _ h; simp only [zE, evp, evx, ev1, evLoad, evStore, evBin, evIf, Zab, forall_const, z38, tb, reduceAdd, reduceSub, reduceMul, reduceEqDiff, reduceLeDiff, reduceLT, Nat.reduceBEq, Nat.reduceBNe, ↓reduceIte, reduceIte, spCk, clmS, Zaw, Zay, Zax, Zbk, Zbj, errU, true_and, and_true] at h; obtain ⟨rfl, rfl, rfl, rfl⟩ := h; refine ⟨?_, ?_⟩) | ((with_reducible refine Ob.mk ?_); first | exact trivial | (intros; omega) | ((repeat' first | apply And.intro | (intro a; have b := a; try simp only [zH] at b)) <;> first | assumption | omega | (simp only [zH]; omega)))
  rcases hor with ⟨hv, hc, he⟩ | ⟨he, hv⟩ | ⟨he, hv, hc⟩
  · rw [he]
    simp only [seI, seII, ↓reduceIte]
    repeat' first
      | with_reducible first | apply Zar | apply Zan | apply Zaa | apply Zad | apply Zah | apply Zao | apply Zag | apply Zaj | apply Zaq | apply Zas | apply Zap | apply Zal | apply Zac | apply Zak
      | ((with_reducible refine Zai ?_ ?_); exact rfl) | ((with_reducible refine Zat ?_); refine Zam rfl ?_ ?_ <;> intro hb <;> (try simp only [zH] at hb)) | ((with_reducible refine Zau 4 ?_ ?_); (· exact rfl); (first | refine Zaf htb hmz Zcf fF rfl rfl ?_ | refine Zae hmo htb hmz Zcf fF rfl rfl (by kernel_rfl) ?_); intro _ _ _ _ h; simp only [zE, evp, evx, ev1, evLoad, evStore, evBin, evIf, Zab, forall_const, z38, tb, reduceAdd, reduceSub, reduceMul, reduceEqDiff, reduceLeDiff, reduceLT, Nat.reduceBEq, Nat.reduceBNe, ↓reduceIte, reduceIte, spCk, clmS, Zaw, Zay, Zax, Zbk, Zbj, errU, true_and, and_true] at h; obtain ⟨rfl, rfl, rfl, rfl⟩ := h; refine ⟨?_, ?_⟩) | ((with_reducible refine Ob.mk ?_); first | exact trivial | (intros; omega) | ((repeat' first | apply And.intro | (intro a; have b := a; try simp only [zH] at b)) <;> first | assumption | omega | (simp only [zH]; omega)))
    · cases hb
    clear hb
    repeat' first
      | with_reducible first | apply Zar | apply Zan | apply Zaa | apply Zad | apply Zah | apply Zao | apply Zag | apply Zaj | apply Zaq | apply Zas | apply Zap | apply Zal | apply Zac | apply Zak
      | ((with_reducible refine Zai ?_ ?_); exact rfl) | ((with_reducible refine Zat ?_); refine Zam rfl ?_ ?_ <;> intro hb <;> (try simp only [zH] at hb)) | ((with_reducible refine Zau 5 ?_ ?_); (· exact rfl); (first | refine Zaf htb hmz Zcf fF rfl rfl ?_ | refine Zae hmo htb hmz Zcf fF rfl rfl (by kernel_rfl) ?_); intro _ _ _ _ h; simp only [zE, evp, evx, ev1, evLoad, evStore, evBin, evIf, Zab, forall_const, z38, tb, reduceAdd, reduceSub, reduceMul, reduceEqDiff, reduceLeDiff, reduceLT, Nat.reduceBEq, Nat.reduceBNe, ↓reduceIte, reduceIte, spCk, clmS, Zaw, Zay, Zax, Zbk, Zbj, errU, true_and, and_true] at h; obtain ⟨rfl, rfl, rfl, rfl⟩ := h; refine ⟨?_, ?_⟩) | ((with_reducible refine Ob.mk ?_); first | exact trivial | (intros; omega) | ((repeat' first | apply And.intro | (intro a; have b := a; try simp only [zH] at b)) <;> first | assumption | omega | (simp only [zH]; omega)))
    refine Zc5 rfl ?_
    refine Zcc (l1 := [_]) (l2 := [_, _, _]) ?_
    refine Zbb htb hmz Zcf fF rfl rfl rfl ?_; intro _ _ _ _ h; simp only [zE, evp, evx, ev1, evLoad, evStore, evBin, evIf, Zab, forall_const, z38, tb, reduceAdd, reduceSub, reduceMul, reduceEqDiff, reduceLeDiff, reduceLT, Nat.reduceBEq, Nat.reduceBNe, ↓reduceIte, reduceIte, spCk, clmS, Zaw, Zay, Zax, Zbk, Zbj, errU, true_and, and_true] at h; obtain ⟨rfl, rfl, rfl, rfl⟩ := h; refine ⟨?_, Zaa ?_⟩
    · first | ((with_reducible refine Ob.mk ?_); first | exact trivial | (intros; omega) | ((repeat' first | apply And.intro | (intro a; have b := a; try simp only [zH] at b)) <;> first | assumption | omega | (simp only [zH]; omega))) | skip
    refine Zcc (l1 := [_]) (l2 := [_, _]) ?_
    refine Zbp ([]) (right_fg hv hc) rfl rfl rfl rfl rfl rfl rfl rfl rfl (by simp only [rinR, rhoC, zE, evp, evx, ev1, evLoad, evStore, evBin, evIf, Zab, forall_const, z38, tb, reduceAdd, reduceSub, reduceMul, reduceEqDiff, reduceLeDiff, reduceLT, Nat.reduceBEq, Nat.reduceBNe, ↓reduceIte, reduceIte, spCk, clmS, Zaw, Zay, Zax, Zbk, Zbj, errU, true_and, and_true]) ?_; intro gm gv gr hq m' e' l' h
    rcases hq with ⟨hs, hq⟩ | ⟨s, l, u, hcp, hsy, hq⟩
    · simp only [GR.mk.injEq] at hq; obtain ⟨rfl, rfl, rfl⟩ := hq; simp only [rhoC, outR, renR, dels, zE, evp, evx, ev1, evLoad, evStore, evBin, evIf, Zab, forall_const, z38, tb, reduceAdd, reduceSub, reduceMul, reduceEqDiff, reduceLeDiff, reduceLT, Nat.reduceBEq, Nat.reduceBNe, ↓reduceIte, reduceIte, spCk, clmS, Zaw, Zay, Zax, Zbk, Zbj, errU, true_and, and_true] at h; obtain ⟨rfl, rfl, rfl⟩ := h; refine Zaa ?_
      refine Zcg (Zeq rfl rfl mk70 _) rfl rfl (fun c h => by cases h) Za5 (.inr rfl) rfl ?_
      dsimp only [putE, setW, reduceAdd]
      refine Zbp ([18]) (as_nil_fg) rfl rfl rfl rfl rfl rfl rfl rfl rfl (by simp only [rinR, rhoC, zE, evp, evx, ev1, evLoad, evStore, evBin, evIf, Zab, forall_const, z38, tb, reduceAdd, reduceSub, reduceMul, reduceEqDiff, reduceLeDiff, reduceLT, Nat.reduceBEq, Nat.reduceBNe, ↓reduceIte, reduceIte, spCk, clmS, Zaw, Zay, Zax, Zbk, Zbj, errU, true_and, and_true]) ?_; intro gm gv gr hq m' e' l' h; simp only [GR.mk.injEq] at hq; obtain ⟨rfl, rfl, rfl⟩ := hq; simp only [rhoC, outR, renR, dels, zE, evp, evx, ev1, evLoad, evStore, evBin, evIf, Zab, forall_const, z38, tb, reduceAdd, reduceSub, reduceMul, reduceEqDiff, reduceLeDiff, reduceLT, Nat.reduceBEq, Nat.reduceBNe, ↓reduceIte, reduceIte, spCk, clmS, Zaw, Zay, Zax, Zbk, Zbj, errU, true_and, and_true] at h; obtain ⟨rfl, rfl, rfl⟩ := h; refine Zaa ?_
      repeat' first
        | with_reducible first | apply Zar | apply Zan | apply Zaa | apply Zad | apply Zah | apply Zao | apply Zag | apply Zaj | apply Zaq | apply Zas | apply Zap | apply Zal | apply Zac | apply Zak
        | ((with_reducible refine Zai ?_ ?_); exact rfl) | ((with_reducible refine Zat ?_); refine Zam rfl ?_ ?_ <;> intro hb <;> (try simp only [zH] at hb)) | ((with_reducible refine Za3 ?_); (first | refine Zaf htb hmz Zcf fF rfl rfl ?_ | refine Zae hmo htb hmz Zcf fF rfl rfl (by kernel_rfl) ?_); intro _ _ _ _ h; simp only [zE, evp, evx, ev1, evLoad, evStore, evBin, evIf, Zab, forall_const, z38, tb, reduceAdd, reduceSub, reduceMul, reduceEqDiff, reduceLeDiff, reduceLT, Nat.reduceBEq, Nat.reduceBNe, ↓reduceIte, reduceIte, spCk, clmS, Zaw, Zay, Zax, Zbk, Zbj, errU, true_and, and_true] at h; obtain ⟨rfl, rfl, rfl, rfl⟩ := h; refine ⟨?_, ?_⟩) | ((with_reducible refine Ob.mk ?_); first | exact trivial | (intros; omega) | ((repeat' first | apply And.intro | (intro a; have b := a; try simp only [zH] at b)) <;> first | assumption | omega | (simp only [zH]; omega)))
      · cases hb
      · refine Zaz rfl rfl (Zdc ⟨1, rsA [] [] 0, [(0, some glB)]⟩ [] ⟨[], [], 0, .inr (.inr (.inl ⟨hv, hc, hs, rfl, rfl, rfl⟩)), rfl⟩ rfl (hz 0) ?_)
        simp only [grR, zE, evp, evx, ev1, evLoad, evStore, evBin, evIf, Zab, forall_const, z38, tb, reduceAdd, reduceSub, reduceMul, reduceEqDiff, reduceLeDiff, reduceLT, Nat.reduceBEq, Nat.reduceBNe, ↓reduceIte, reduceIte, spCk, clmS, Zaw, Zay, Zax, Zbk, Zbj, errU, true_and, and_true]
    · rcases hsy with rfl | ⟨rfl, rfl⟩
      · simp only [GR.mk.injEq] at hq; obtain ⟨rfl, rfl, rfl⟩ := hq; simp only [rhoC, outR, renR, dels, zE, evp, evx, ev1, evLoad, evStore, evBin, evIf, Zab, forall_const, z38, tb, reduceAdd, reduceSub, reduceMul, reduceEqDiff, reduceLeDiff, reduceLT, Nat.reduceBEq, Nat.reduceBNe, ↓reduceIte, reduceIte, spCk, clmS, Zaw, Zay, Zax, Zbk, Zbj, errU, true_and, and_true] at h; obtain ⟨rfl, rfl, rfl⟩ := h; refine Zaa ?_
        refine Zcg (Zeq rfl rfl mk70 _) rfl rfl (fun c h => by cases h) Za5 (.inr rfl) rfl ?_
        dsimp only [putE, setW, reduceAdd]
        refine Zbp [18, 19, 16, 0] (as_hit_fg (a := .roI s) (b := .roI l) (c := .cst (.slice none 0 0)) (d := .cst (.slice none 0 0)) ⟨rfl, rfl, rfl⟩ ⟨rfl, rfl, rfl⟩) rfl rfl rfl rfl rfl rfl rfl rfl rfl (by simp only [rinR, rhoC, zE, evp, evx, ev1, evLoad, evStore, evBin, evIf, Zab, forall_const, z38, tb, reduceAdd, reduceSub, reduceMul, reduceEqDiff, reduceLeDiff, reduceLT, Nat.reduceBEq, Nat.reduceBNe, ↓reduceIte, reduceIte, spCk, clmS, Zaw, Zay, Zax, Zbk, Zbj, errU, true_and, and_true]; exact ⟨memAll1, memAll2⟩) ?_
        intro gm gv gr hq m' e' l' h
        simp only [GR.mk.injEq] at hq; obtain ⟨rfl, rfl, rfl⟩ := hq; simp only [rhoC, outR, renR, dels, zE, evp, evx, ev1, evLoad, evStore, evBin, evIf, Zab, forall_const, z38, tb, reduceAdd, reduceSub, reduceMul, reduceEqDiff, reduceLeDiff, reduceLT, Nat.reduceBEq, Nat.reduceBNe, ↓reduceIte, reduceIte, spCk, clmS, Zaw, Zay, Zax, Zbk, Zbj, errU, true_and, and_true] at h; obtain ⟨rfl, rfl, rfl⟩ := h; refine Zaa ?_
        repeat' first
          | with_reducible first | apply Zar | apply Zan | apply Zaa | apply Zad | apply Zah | apply Zao | apply Zag | apply Zaj | apply Zaq | apply Zas | apply Zap | apply Zal | apply Zac | apply Zak
          | ((with_reducible refine Zai ?_ ?_); exact rfl) | ((with_reducible refine Zat ?_); refine Zam rfl ?_ ?_ <;> intro hb <;> (try simp only [zH] at hb)) | ((with_reducible refine Za3 ?_); (first | refine Zaf htb hmz Zcf fF rfl rfl ?_ | refine Zae hmo htb hmz Zcf fF rfl rfl (by kernel_rfl) ?_); intro _ _ _ _ h; simp only [zE, evp, evx, ev1, evLoad, evStore, evBin, evIf, Zab, forall_const, z38, tb, reduceAdd, reduceSub, reduceMul, reduceEqDiff, reduceLeDiff, reduceLT, Nat.reduceBEq, Nat.reduceBNe, ↓reduceIte, reduceIte, spCk, clmS, Zaw, Zay, Zax, Zbk, Zbj, errU, true_and, and_true] at h; obtain ⟨rfl, rfl, rfl, rfl⟩ := h; refine ⟨?_, ?_⟩) | ((with_reducible refine Ob.mk ?_); first | exact trivial | (intros; omega) | ((repeat' first | apply And.intro | (intro a; have b := a; try simp only [zH] at b)) <;> first | assumption | omega | (simp only [zH]; omega)))
        · refine Zaz rfl rfl (Zdc ⟨1, rsA (s) l 8, [(0, some glB)]⟩ [] ⟨s, l, 8, .inr (.inr (.inr ⟨hv, hc, hcp, rfl⟩)), rfl⟩ rfl (Zbz rfl) ?_)
          simp only [grR, zE, evp, evx, ev1, evLoad, evStore, evBin, evIf, Zab, forall_const, z38, tb, reduceAdd, reduceSub, reduceMul, reduceEqDiff, reduceLeDiff, reduceLT, Nat.reduceBEq, Nat.reduceBNe, ↓reduceIte, reduceIte, spCk, clmS, Zaw, Zay, Zax, Zbk, Zbj, errU, true_and, and_true]
        · cases hb
      · simp only [GR.mk.injEq] at hq; obtain ⟨rfl, rfl, rfl⟩ := hq; simp only [rhoC, outR, renR, dels, zE, evp, evx, ev1, evLoad, evStore, evBin, evIf, Zab, forall_const, z38, tb, reduceAdd, reduceSub, reduceMul, reduceEqDiff, reduceLeDiff, reduceLT, Nat.reduceBEq, Nat.reduceBNe, ↓reduceIte, reduceIte, spCk, clmS, Zaw, Zay, Zax, Zbk, Zbj, errU, true_and, and_true] at h; obtain ⟨rfl, rfl, rfl⟩ := h; refine Zaa ?_
        refine Zcg (Zeq rfl rfl mk70 _) rfl rfl (fun c h => by cases h) Za5 (.inr rfl) rfl ?_
        dsimp only [putE, setW, reduceAdd]
        refine Zbp [18, 19, 16, 0] (as_hit_fg (a := .cst (.slice none 0 0)) (b := .roI l) (c := .cst (.slice none 0 0)) (d := .cst (.slice none 0 0)) ⟨rfl, rfl, rfl⟩ ⟨rfl, rfl, rfl⟩) rfl rfl rfl rfl rfl rfl rfl rfl rfl (by simp only [rinR, rhoC, zE, evp, evx, ev1, evLoad, evStore, evBin, evIf, Zab, forall_const, z38, tb, reduceAdd, reduceSub, reduceMul, reduceEqDiff, reduceLeDiff, reduceLT, Nat.reduceBEq, Nat.reduceBNe, ↓reduceIte, reduceIte, spCk, clmS, Zaw, Zay, Zax, Zbk, Zbj, errU, true_and, and_true]; exact ⟨memAll1, memAll2⟩) ?_
        intro gm gv gr hq m' e' l' h
        simp only [GR.mk.injEq] at hq; obtain ⟨rfl, rfl, rfl⟩ := hq; simp only [rhoC, outR, renR, dels, zE, evp, evx, ev1, evLoad, evStore, evBin, evIf, Zab, forall_const, z38, tb, reduceAdd, reduceSub, reduceMul, reduceEqDiff, reduceLeDiff, reduceLT, Nat.reduceBEq, Nat.reduceBNe, ↓reduceIte, reduceIte, spCk, clmS, Zaw, Zay, Zax, Zbk, Zbj, errU, true_and, and_true] at h; obtain ⟨rfl, rfl, rfl⟩ := h; refine Zaa ?_
        repeat' first
          | with_reducible first | apply Zar | apply Zan | apply Zaa | apply Zad | apply Zah | apply Zao | apply Zag | apply Zaj | apply Zaq | apply Zas | apply Zap | apply Zal | apply Zac | apply Zak
          | ((with_reducible refine Zai ?_ ?_); exact rfl) | ((with_reducible refine Zat ?_); refine Zam rfl ?_ ?_ <;> intro hb <;> (try simp only [zH] at hb)) | ((with_reducible refine Za3 ?_); (first | refine Zaf htb hmz Zcf fF rfl rfl ?_ | refine Zae hmo htb hmz Zcf fF rfl rfl (by kernel_rfl) ?_); intro _ _ _ _ h; simp only [zE, evp, evx, ev1, evLoad, evStore, evBin, evIf, Zab, forall_const, z38, tb, reduceAdd, reduceSub, reduceMul, reduceEqDiff, reduceLeDiff, reduceLT, Nat.reduceBEq, Nat.reduceBNe, ↓reduceIte, reduceIte, spCk, clmS, Zaw, Zay, Zax, Zbk, Zbj, errU, true_and, and_true] at h; obtain ⟨rfl, rfl, rfl, rfl⟩ := h; refine ⟨?_, ?_⟩) | ((with_reducible refine Ob.mk ?_); first | exact trivial | (intros; omega) | ((repeat' first | apply And.intro | (intro a; have b := a; try simp only [zH] at b)) <;> first | assumption | omega | (simp only [zH]; omega)))
        · refine Zaz rfl rfl (Zdc ⟨1, rsA ([]) l 8, [(0, some glB)]⟩ [] ⟨[], l, 8, .inr (.inr (.inr ⟨hv, hc, hcp, rfl⟩)), rfl⟩ rfl (Zg9 (Zb5 (Zgf (Zb5 Zcy (Zbz rfl))) (Zbz rfl))) ?_)
          simp only [grR, zE, evp, evx, ev1, evLoad, evStore, evBin, evIf, Zab, forall_const, z38, tb, reduceAdd, reduceSub, reduceMul, reduceEqDiff, reduceLeDiff, reduceLT, Nat.reduceBEq, Nat.reduceBNe, ↓reduceIte, reduceIte, spCk, clmS, Zaw, Zay, Zax, Zbk, Zbj, errU, true_and, and_true]
        · cases hb
  · rw [he]
    repeat' first
      | with_reducible first | apply Zar | apply Zan | apply Zaa | apply Zad | apply Zah | apply Zao | apply Zag | apply Zaj | apply Zaq | apply Zas | apply Zap | apply Zal | apply Zac | apply Zak
      | ((with_reducible refine Zai ?_ ?_); exact rfl) | ((with_reducible refine Zat ?_); refine Zam rfl ?_ ?_ <;> intro hb <;> (try simp only [zH] at hb)) | ((with_reducible refine Za3 ?_); (first | refine Zaf htb hmz Zcf fF rfl rfl ?_ | refine Zae hmo htb hmz Zcf fF rfl rfl (by kernel_rfl) ?_); intro _ _ _ _ h; simp only [zE, evp, evx, ev1, evLoad, evStore, evBin, evIf, Zab, forall_const, z38, tb, reduceAdd, reduceSub, reduceMul, reduceEqDiff, reduceLeDiff, reduceLT, Nat.reduceBEq, Nat.reduceBNe, ↓reduceIte, reduceIte, spCk, clmS, Zaw, Zay, Zax, Zbk, Zbj, errU, true_and, and_true] at h; obtain ⟨rfl, rfl, rfl, rfl⟩ := h; refine ⟨?_, ?_⟩) | ((with_reducible refine Ob.mk ?_); first | exact trivial | (intros; omega) | ((repeat' first | apply And.intro | (intro a; have b := a; try simp only [zH] at b)) <;> first | assumption | omega | (simp only [zH]; omega)))
    · refine Zaz rfl rfl (Zdc ⟨1, rsA [] [] 1, [(0, some glB)]⟩ [] ⟨[], [], 1, .inl ⟨hv, rfl, rfl, rfl⟩, rfl⟩ rfl (hz 1) ?_)
      simp only [grR, zE, evp, evx, ev1, evLoad, evStore, evBin, evIf, Zab, forall_const, z38, tb, reduceAdd, reduceSub, reduceMul, reduceEqDiff, reduceLeDiff, reduceLT, Nat.reduceBEq, Nat.reduceBNe, ↓reduceIte, reduceIte, spCk, clmS, Zaw, Zay, Zax, Zbk, Zbj, errU, true_and, and_true]
    · cases hb
  · rw [he]
    repeat' first
      | with_reducible first | apply Zar | apply Zan | apply Zaa | apply Zad | apply Zah | apply Zao | apply Zag | apply Zaj | apply Zaq | apply Zas | apply Zap | apply Zal | apply Zac | apply Zak
      | ((with_reducible refine Zai ?_ ?_); exact rfl) | ((with_reducible refine Zat ?_); refine Zam rfl ?_ ?_ <;> intro hb <;> (try simp only [zH] at hb)) | ((with_reducible refine Za3 ?_); (first | refine Zaf htb hmz Zcf fF rfl rfl ?_ | refine Zae hmo htb hmz Zcf fF rfl rfl (by kernel_rfl) ?_); intro _ _ _ _ h; simp only [zE, evp, evx, ev1, evLoad, evStore, evBin, evIf, Zab, forall_const, z38, tb, reduceAdd, reduceSub, reduceMul, reduceEqDiff, reduceLeDiff, reduceLT, Nat.reduceBEq, Nat.reduceBNe, ↓reduceIte, reduceIte, spCk, clmS, Zaw, Zay, Zax, Zbk, Zbj, errU, true_and, and_true] at h; obtain ⟨rfl, rfl, rfl, rfl⟩ := h; refine ⟨?_, ?_⟩) | ((with_reducible refine Ob.mk ?_); first | exact trivial | (intros; omega) | ((repeat' first | apply And.intro | (intro a; have b := a; try simp only [zH] at b)) <;> first | assumption | omega | (simp only [zH]; omega)))
    · refine Zaz rfl rfl (Zdc ⟨1, rsA [] [] 4, [(0, some glB)]⟩ [] ⟨[], [], 4, .inr (.inl ⟨hv, hc, rfl, rfl, rfl⟩), rfl⟩ rfl (hz 4) ?_)
      simp only [grR, zE, evp, evx, ev1, evLoad, evStore, evBin, evIf, Zab, forall_const, z38, tb, reduceAdd, reduceSub, reduceMul, reduceEqDiff, reduceLeDiff, reduceLT, Nat.reduceBEq, Nat.reduceBNe, ↓reduceIte, reduceIte, spCk, clmS, Zaw, Zay, Zax, Zbk, Zbj, errU, true_and, and_true]
    · cases hb
open Go Go.ChangeShapes Go.WideShapes Go.ChangeAt Go.RowKit Go.Deep
def old (w : World) : Nat → Prop := fun b => b < w.heap.size
def Zh3 {H : Type} (P : Program) (t : Nat) (d : DataW H) : Prop := ∀ n, n ∈ d.weights P t → n ≤ 140737488351232
section
variable {H : Type} {enc : TypeId × Value → H} {P : Program} {w : World} {base : Nat} {spare : Nat → Bool} {held : Bool}
theorem weights_all {e : TypeId} {d : DataW H} : ∀ {l : List (DataW H)}, d ∈ l → ∀ n, n ∈ d.weights P e → n ∈ DataW.weightsAll P e l
  | [], h, _, _ => absurd h List.not_mem_nil
  | x :: l, h, n, hn => by
    simp only [DataW.weightsAll, List.mem_append]
    rcases List.mem_cons.1 h with rfl | h
    · exact .inl hn
    · exact .inr (weights_all h n hn)
theorem cell_lt {a : Addr} {v : Value} (h : w.cell? a = some v) : a.spot = none ∧ a.block < w.heap.size := by
  unfold World.cell? at h
  cases hb : w.heap[a.block]? with
  | none => rw [hb] at h; cases h
  | some o =>
    rw [hb] at h
    refine ⟨?_, (Array.getElem?_eq_some_iff.1 hb).1⟩
    cases o <;> first | (cases h; done) | skip
    dsimp only at h
    split at h
    · cases h
    · rename_i hs; simpa using hs
theorem rd_slice {α : Type} {t e fuel : Nat} {v : Value} {x : DataW H × List MemPlace} (d0 : α) (G : α → List Value → Prop) (ht : P.underlying t = some (.slice e)) (hc : P.cellsOf e = 1) (hB : 8 ≤ P.bytesOf e ∨ 1 ≤ P.bytesOf e)
    (hel : ∀ n c y, DataW.trod enc P w base spare held n e [c] = some y → Zh3 P e y.1 → ∃ a, G a [c])
    (h : DataW.trod enc P w base spare held fuel t [v] = some x) (hl : Zh3 P t x.1) : ∃ l : List α, Zdn (old w) w 1 l.length (fun j es => G (l.getD j d0) es) [v] := by
  rcases open_slice1 ht hc h with ⟨hcs, _⟩ | ⟨a, len, cap, m, n, V, D, Pl, hcs, hba, hle, hcap, hm, hx, hel2⟩
  · cases hcs
    exact ⟨[], none, 0, rfl, Nat.le_refl _, Nat.zero_le _, fun h => absurd h (Nat.lt_irrefl 0)⟩
  · cases hcs
    subst hx
    have hlm : len ≤ m := by rw [hm]; split <;> omega
    have hex : ∀ i, i < len → ∃ a, G a [V i] := fun i hi => by
      obtain ⟨h1, h2⟩ := hel2 i (by omega)
      refine hel _ _ _ h2 fun k hk => hl k ?_
      simp only [DataW.weights, ht, List.mem_cons, List.mem_append]
      exact .inr (.inl (weights_all (List.mem_map.2 ⟨i, List.mem_range.2 hi, rfl⟩) k hk))
    obtain ⟨F, hF⟩ : ∃ F : Nat → α, ∀ i, i < len → G (F i) [V i] := by
      refine ⟨fun i => if h : i < len then Classical.choose (hex i h) else d0, fun i hi => ?_⟩
      simp only [dif_pos hi]
      exact Classical.choose_spec (hex i hi)
    refine ⟨(List.range len).map F, some a, cap, by simp, by simpa using hle, ?_, fun hn => ?_⟩
    · have := hl ((((List.range len).map D).length + ((List.range (m - len)).map fun j => D (len + j)).length) * P.bytesOf e) (by simp only [DataW.weights, ht]; exact List.mem_cons_self)
      simp only [List.length_map, List.length_range] at this ⊢
      have hb1 : 1 ≤ P.bytesOf e := by omega
      have h3 : len ≤ (len + (m - len)) * P.bytesOf e := Nat.le_trans (Nat.le_add_right _ _) (Nat.le_mul_of_pos_right _ hb1)
      unfold lim; omega
    · simp only [List.length_map, List.length_range] at hn ⊢
      obtain ⟨h0, _⟩ := hel2 0 (by omega)
      obtain ⟨s1, s2⟩ := cell_lt h0
      obtain ⟨b, off, spot⟩ := a
      obtain rfl : spot = none := by simpa [Addr.add] using s1
      refine ⟨b, off, rfl, by simpa [Addr.add, old] using s2, fun j hj => ⟨[V j], ?_, rfl, fun i c hi => ?_⟩⟩
      · have : ((List.range len).map F).getD j d0 = F j := by simp [List.getD_eq_getElem?_getD, hj]
        rw [this]; exact hF j hj
      · cases i with
        | succ i => simp at hi
        | zero =>
          simp only [List.getElem?_cons_zero, Option.some.injEq] at hi
          subst hi
          obtain ⟨h1, _⟩ := hel2 j (by omega)
          rw [← Go.WideShapes.add_plain, Nat.mul_one, Nat.add_zero]; exact h1
theorem Zf8 {t e fuel : Nat} {v : Value} {x : DataW H × List MemPlace} (ht : P.underlying t = some (.slice e)) (he : P.underlying e = some (.int .i64)) (hc : P.cellsOf e = 1) (hB : 1 ≤ P.bytesOf e)
    (h : DataW.trod enc P w base spare held fuel t [v] = some x) (hl : Zh3 P t x.1) (ν : Nat → Value) (m : Bool) : ∃ l : List Int, R (old w) w (.roI l) ν m [v] :=
  rd_slice 0 (fun n es => es = [.int .i64 n]) ht hc (.inr hB) (fun n c y hy _ => by
    obtain ⟨k, hk, _⟩ := DataW.trod_int he hy
    exact ⟨k, hk⟩) h hl
theorem rd_intss {t e e2 fuel : Nat} {v : Value} {x : DataW H × List MemPlace} (ht : P.underlying t = some (.slice e)) (hc : P.cellsOf e = 1) (hB : 1 ≤ P.bytesOf e) (he : P.underlying e = some (.slice e2)) (he2 : P.underlying e2 = some (.int .i64)) (hc2 : P.cellsOf e2 = 1) (hB2 : 1 ≤ P.bytesOf e2)
    (h : DataW.trod enc P w base spare held fuel t [v] = some x) (hl : Zh3 P t x.1) (ν : Nat → Value) (m : Bool) : ∃ l : List (List Int), R (old w) w (.roII l) ν m [v] :=
  rd_slice [] (fun l es => R (old w) w (.roI l) ν m es) ht hc (.inr hB) (fun n c y hy hl => Zf8 he he2 hc2 hB2 hy hl ν m) h hl
theorem rd_game {r : Reach} {b0 t : Nat} {f0 f1 f2 : Field} {v : Value} {d : DataW H} {p : List MemPlace} (hs : P.underlying t = some (.struct #[f0, f1, f2])) (hone : oneCellFields P #[f0, f1, f2] = true) (hC : P.cellsOf t = 3) (hv : Value.okWide P w r b0 t v) (h : DataW.Trod enc P w base spare held t v d p) (hl : Zh3 P t d)
    {e1 e2 : Nat} (h0 : P.underlying f0.type = some (.slice e1)) (h1 : P.underlying f1.type = some (.slice e1)) (h2 : P.underlying f2.type = some (.slice e2)) (he1 : P.underlying e1 = some (.int .i64)) (he2 : P.underlying e2 = some (.slice e1)) (hc1 : P.cellsOf e1 = 1) (hc2 : P.cellsOf e2 = 1) (hB1 : 1 ≤ P.bytesOf e1) (hB2 : 1 ≤ P.bytesOf e2) (ν : Nat → Value) :
    ∃ g : Gm, R (old w) w (gmA g) ν true [v] := by
  obtain ⟨v0, v1, v2, y0, y1, y2, n, rfl, rfl, rfl, t0, t1, t2⟩ := Go.Joins.open_agg3 hs hone hC hv h
  have hw : ∀ k, k ∈ y0.1.weights P f0.type ∨ k ∈ y1.1.weights P f1.type ∨ k ∈ y2.1.weights P f2.type → k ≤ 140737488351232 := fun k hk => hl k (by
    simp only [DataW.weights, hs, DataW.weightsEach, List.mem_append, List.map_cons, List.map_nil, List.not_mem_nil, or_false]
    exact hk)
  obtain ⟨o, ho⟩ := Zf8 h0 he1 hc1 hB1 t0 (fun k hk => hw k (.inl hk)) ν true
  obtain ⟨q, hq⟩ := Zf8 h1 he1 hc1 hB1 t1 (fun k hk => hw k (.inr (.inl hk))) ν true
  obtain ⟨x, hx⟩ := rd_intss h2 hc2 hB2 he2 he1 hc1 hB1 t2 (fun k hk => hw k (.inr (.inr hk))) ν true
  exact ⟨⟨o, q, x⟩, [v0, v1, v2], rfl, v0, [v1, v2], rfl, ho, v1, [v2], rfl, hq, v2, [], rfl, hx, rfl⟩
theorem light_of {ts : List TypeId} {ds : List (DataW H)} (hsz : (DataW.weightsEach P ts ds).all (· ≤ reachBytes) = true) {j t : Nat} {d : DataW H} (ht : ts[j]? = some t) (hd : ds[j]? = some d) : Zh3 P t d := fun n hn => by
  have := List.all_eq_true.1 hsz _ (DataW.weights_mem_each ht hd n hn)
  exact of_decide_eq_true this
end
open Go
def exS : Spec
  | [] => some ⟨True, .agg (.cons (.roI [0, 1]) (.cons (.roI [1, 2]) (.cons (.roII [[0, 1], [0, 1]]) .nil))), none⟩
  | _ => none
set_option maxRecDepth 4000 in
set_option maxHeartbeats 4000000 in
theorem ex_ok : Zcm Tryd.prog 27 exS := by
  refine Zbe htb (fn := Tryd.f27) (by kernel_rfl) (by kernel_rfl) rfl (fun args r hS => ?_) (fun args r hS hob hl => ?_)
  · unfold exS at hS; split at hS <;> first | (cases hS; done) | (cases hS; exact Nat.le_of_ble_eq_true rfl)
  unfold exS at hS
  split at hS
  case h_2 => cases hS
  simp only [Option.some.injEq] at hS
  subst hS
  repeat' first
    | with_reducible first | apply Zar | apply Zan | apply Zaa | apply Zad | apply Zah | apply Zao | apply Zag | apply Zaj | apply Zaq | apply Zas | apply Zap | apply Zal | apply Zac | apply Zak
    | ((with_reducible refine Zai ?_ ?_); exact rfl) | ((with_reducible refine Zat ?_); refine Zam rfl ?_ ?_ <;> intro hb <;> (try simp only [zH] at hb)) | ((with_reducible refine Za3 ?_); (first | refine Zaf htb hmz noSp fF rfl rfl ?_ | refine Zae hmo htb hmz noSp fF rfl rfl (by kernel_rfl) ?_); intro _ _ _ _ h; simp only [zE, evp, evx, ev1, evLoad, evStore, evBin, evIf, Zab, forall_const, z38, tb, reduceAdd, reduceSub, reduceMul, reduceEqDiff, reduceLeDiff, reduceLT, Nat.reduceBEq, Nat.reduceBNe, ↓reduceIte, reduceIte] at h; obtain ⟨rfl, rfl, rfl, rfl⟩ := h; refine ⟨?_, ?_⟩) | ((with_reducible refine Ob.mk ?_); first | exact trivial | (intros; omega) | ((repeat' first | apply And.intro | (intro a; have b := a; try simp only [zH] at b)) <;> first | assumption | omega | (simp only [zH]; omega)))
  refine Zaz rfl rfl (Zav rfl ?_ rfl)
  rfl
open Go
section
variable {P : Program} {ro : Option Nat} {N κ : Nat} {tb : Nat → Option TI}
theorem Good.put {K Z : Nat → Prop} {w : World} {ν : Nat → Value} {σ : St} {a : Act} {r : Nat} {o : Obj} (hg : Good K Z N w ν σ a) (hK : K r) (hZ : ¬ Z r) : Good K Z N (w.putObj r o) ν σ a := by
  have hz : ∀ b, Z b → (w.putObj r o).heap[b]? = w.heap[b]? := fun b hb => World.putObj_heap_other (fun e => hZ (e ▸ hb))
  refine ⟨hg.size, hg.one, fun s => ⟨(hg.env s).1, Zbm (fun _ h => h) hz (hg.env s).2⟩, ?_, hg.zk, fun b hb => by rw [World.putObj_size]; exact hg.kl b hb, hg.ds, hg.ml⟩
  exact hg.rs.mono (fun _ h => h) hz (by rw [World.putObj_size]; exact Nat.le_refl _) (fun _ h => .inl h) (fun b hb _ => World.putObj_heap_other (fun e => hb (e ▸ hK)))
end
open Go
section
variable {P : Program} {ro : Option Nat} {N κ : Nat} {tb : Nat → Option TI}
inductive Lv where
  | ret
  | exit (id : Nat)
def Lv.c : Lv → Code
  | .ret => .ret
  | .exit id => .exit id
def Lv.e : Lv → Exit
  | .ret => .ret
  | .exit id => .exit id
end
open Go
section
variable {P : Program} {ro : Option Nat} {N κ : Nat} {tb : Nat → Option TI}
def awpG (P : Program) (ro : Option Nat) (N κ : Nat) (ops : Array Oper) (l : List Oper) (σ : St) (Q : Exit → St → Prop) : Prop :=
  ∀ n K Z ν w a, Good K Z N w ν σ a → wpListIn (FF ro) n P ops (Post N κ K Z w ν Q) l a w
theorem Zfc {id : Nat} {l : List Oper} {σ : St} {Q : Exit → St → Prop} (h : awpG P ro N κ l.toArray l σ Q) : awp P ro N κ (.region id l.toArray false) σ Q :=
  fun n K Z ν w a hg => wpIn_region_lit (h n K Z ν w a hg)
theorem Zfz {ops : Array Oper} {σ : St} {Q : Exit → St → Prop} (h : Q .normal σ) : awpG P ro N κ ops [] σ Q := fun n K Z ν w a hg => Zcv hg h
def noGd (o : Oper) : Oper := { o with guard := none }
theorem awpG_one {ops : Array Oper} {o : Oper} {rest : List Oper} {σ : St} {Q : Exit → St → Prop} (hw : ∀ K Z ν w a, Good K Z N w ν σ a → Region.wanted o (yielded ops a.tmps) = true)
    (h : awpL P ro N κ [noGd o] σ (Zek (fun s => awpG P ro N κ ops rest s Q) Q)) : awpG P ro N κ ops (o :: rest) σ Q := by
  intro n K Z ν w a hg
  have h1 := h n K Z ν w a hg
  have hw1 : Region.wanted (noGd o) (yielded #[] a.tmps) = true := Zco rfl _
  simp only [wpListIn, hw1, if_true] at h1
  simp only [wpListIn, hw K Z ν w a hg, if_true]
  have h2 : o.wpIn (FF ro) n P a w (fun a' w' => Post N κ K Z w ν (Zek (fun s => awpG P ro N κ ops rest s Q) Q) .normal a' w') (Post N κ K Z w ν (Zek (fun s => awpG P ro N κ ops rest s Q) Q)) := h1
  refine Ze0 (fun a' w' hp => ?_) (fun e a' w' he hp => ?_) h2
  · obtain ⟨Z', ν', σ', g1, g2, g3, g4⟩ := hp
    exact Zb6 (fun e a2 w2 hp => hp.trans g1 g2) (g4 n _ _ ν' w' a' g3)
  · obtain ⟨Z', ν', σ', g1, g2, g3, g4⟩ := hp
    refine ⟨Z', ν', σ', g1, g2, g3, ?_⟩
    cases e <;> first | exact absurd rfl he | exact g4
theorem tmp_bool {K Z : Nat → Prop} {w : World} {ν : Nat → Value} {σ : St} {a : Act} {d : Nat} {b : Bool} (hg : Good K Z N w ν σ a) (h : σ.env d = .bool b) : a.tmps[d]? = some (.bool b) := by
  have := (hg.env d).2
  rw [h] at this
  have h2 : a.tmps.getD d undef = .bool b := one1 this
  rw [Array.getD_eq_getD_getElem?] at h2
  cases e : a.tmps[d]? with
  | none => rw [e] at h2; cases h2
  | some v => rw [e] at h2; simp only [Option.getD_some] at h2; rw [h2]
theorem wanted_of {K Z : Nat → Prop} {w : World} {ν : Nat → Value} {σ : St} {a : Act} {ops : Array Oper} {o oi : Oper} {i d : Nat} {b v : Bool} (hg : Good K Z N w ν σ a) (ho : o.guard = some (i, b)) (hi : ops[i]? = some oi) (hd : oi.dst = some d) (h : σ.env d = .bool v) : Region.wanted o (yielded ops a.tmps) = (v == b) := by
  have e : yielded ops a.tmps i = some v := by
    unfold yielded
    rw [hi]
    simp only [Option.bind_some, hd, tmp_bool hg h]
  unfold Region.wanted
  rw [ho]
  simp only [e]
  cases v <;> cases b <;> rfl
theorem Zfy {ops : Array Oper} {o oi : Oper} {rest : List Oper} {m : Nat} {env : List (Nat × AV)} {rs : List (Nat × Option Blk)} {ms : List Nat} {Q : Exit → St → Prop} {i d : Nat} {b : Bool} (ho : o.guard = some (i, b)) (hi : ops[i]? = some oi) (hd : oi.dst = some d) (hv : lke env d = .bool b)
    (h : awpL P ro N κ [noGd o] (CS.st ⟨m, env, rs, ms⟩) (Zek (fun s => awpG P ro N κ ops rest s Q) Q)) : awpG P ro N κ ops (o :: rest) (CS.st ⟨m, env, rs, ms⟩) Q :=
  awpG_one (fun K Z ν w a hg => by rw [wanted_of hg ho hi hd hv]; cases b <;> rfl) h
end
open Go
section
variable {P : Program} {ro : Option Nat} {N κ : Nat} {tb : Nat → Option TI} {sp : Nat → Option Spec} {ops : Array Oper}
def Zi5 (ops : List Oper) : Bool :=
  let A := ancs ops []
  (List.range ops.length).all fun i =>
    ((A.getD i []).all fun j => match ops[i]? with | some o => (Zbt o).any (fun p => Nat.beq p j || ((A.getD p []).any fun q => Nat.beq q j)) && Nat.blt j i | none => false) &&
    (match ops[i]? with | some o => (Zbt o).all fun p => Nat.blt p i | none => false)
structure AncOK (ops : Array Oper) : Prop where
  up : ∀ i, i < ops.size → ∀ o, ops[i]? = some o → (∀ j, j ∈ (ancs ops.toList []).getD i [] → (∃ p, p ∈ Zbt o ∧ (p = j ∨ j ∈ (ancs ops.toList []).getD p [])) ∧ j < i) ∧ (∀ p, p ∈ Zbt o → p < i)
theorem anc_ok (hc : Zi5 ops.toList = true) : AncOK ops := by
  refine ⟨fun i hi o ho => ?_⟩
  simp only [Zi5, List.all_eq_true, List.mem_range, Bool.and_eq_true, Array.length_toList] at hc
  obtain ⟨h1, h2⟩ := hc i hi
  have ho' : ops.toList[i]? = some o := by simpa using ho
  rw [ho'] at h1 h2
  simp only [List.all_eq_true, Nat.blt_eq] at h2
  refine ⟨fun j hj => ?_, h2⟩
  have := h1 j hj
  simp only [Bool.and_eq_true, List.any_eq_true, Bool.or_eq_true, Nat.blt_eq] at this
  obtain ⟨⟨p, hp, hpj⟩, hlt⟩ := this
  refine ⟨⟨p, hp, ?_⟩, hlt⟩
  rcases hpj with h | ⟨q, hq, h⟩
  · exact .inl (Nat.eq_of_beq_eq_true h)
  · exact .inr (Nat.eq_of_beq_eq_true h ▸ hq)
def Zht (ops : Array Oper) (listed : Array Bool) : Prop := ∀ i o, ops[i]? = some o → listed.getD i true = true → ∀ p, p ∈ Zbt o → listed.getD p true = true
theorem Zdd (hA : AncOK ops) {listed : Array Bool} (hcl : Zht ops listed) : ∀ i, i < ops.size → ∀ o, ops[i]? = some o → (∀ p, p ∈ Zbt o → listed.getD p true = true) → ∀ j, j ∈ (ancs ops.toList []).getD i [] → listed.getD j true = true := by
  intro i
  induction i using Nat.strongRecOn with
  | _ i ih =>
    intro hi o ho hp j hj
    obtain ⟨⟨p, hpm, hpj⟩, hlt⟩ := (hA.up i hi o ho).1 j hj
    rcases hpj with rfl | hpj
    · exact hp p hpm
    · have hpi := (hA.up i hi o ho).2 p hpm
      have hps : p < ops.size := by omega
      exact ih p hpi hps ops[p] (Array.getElem?_eq_getElem hps) (hcl p _ (Array.getElem?_eq_getElem hps) (hp p hpm)) j hpj
theorem Zc3 {listed : Array Bool} {i : Nat} (hi : i ∈ Region.ready .any ops listed) : i < ops.size ∧ listed.getD i true = false ∧ ∀ o, ops[i]? = some o → ∀ p, p ∈ Zbt o → listed.getD p true = true := by
  simp only [Region.ready, List.mem_filter, List.mem_range, Bool.and_eq_true, Bool.not_eq_true'] at hi
  obtain ⟨h1, h2, h3⟩ := hi
  refine ⟨h1, h2, fun o ho p hp => ?_⟩
  rw [ho] at h3
  simp only [Option.map_some, Option.getD_some] at h3
  simp only [Zbt, List.mem_map, List.mem_filter] at hp
  obtain ⟨e, ⟨he, hb⟩, rfl⟩ := hp
  have := (Array.all_eq_true_iff_forall_mem.1 h3) e (by simpa using he)
  rw [hb] at this
  simp only [Bool.not_true, Bool.false_or] at this
  cases hg : listed[e.on]? with
  | none => simp [Array.getD_eq_getD_getElem?, hg]
  | some x => simp [Array.getD_eq_getD_getElem?, hg] at this ⊢; exact this
theorem Zfp {listed : Array Bool} {i : Nat} {o : Oper} (ho : ops[i]? = some o) (hl : listed.getD i true = false) (hp : ∀ p, p ∈ Zbt o → p < listed.size ∧ listed.getD p true = true) : i ∈ Region.ready .any ops listed := by
  have hi : i < ops.size := (Array.getElem?_eq_some_iff.1 ho).1
  simp only [Region.ready, List.mem_filter, List.mem_range, Bool.and_eq_true, Bool.not_eq_true']
  refine ⟨hi, hl, ?_⟩
  rw [ho]
  simp only [Option.map_some, Option.getD_some]
  refine Array.all_eq_true_iff_forall_mem.2 fun e he => ?_
  cases hb : Region.binds .any e with
  | false => rfl
  | true =>
    obtain ⟨h1, h2⟩ := hp e.on (List.mem_map.2 ⟨e, List.mem_filter.2 ⟨by simpa using he, hb⟩, rfl⟩)
    simp [Array.getD_eq_getD_getElem?, Array.getElem?_eq_getElem h1] at h2 ⊢
    exact h2
theorem Zdt {listed : Array Bool} {i j : Nat} (hi : i < listed.size) : ((listed.setIfInBounds i true).getD j true = true ↔ (j = i ∨ listed.getD j true = true)) := by
  simp only [Array.getD_eq_getD_getElem?, Array.getElem?_setIfInBounds]
  by_cases h : i = j
  · subst h; simp [hi]
  · simp [h, Ne.symm h]
theorem set_getF {listed : Array Bool} {i j : Nat} (hi : i < listed.size) : ((listed.setIfInBounds i true).getD j true = false ↔ (j ≠ i ∧ listed.getD j true = false)) := by
  have := Zdt (j := j) hi
  cases h : (listed.setIfInBounds i true).getD j true with
  | true =>
    simp only [h, true_iff] at this
    refine ⟨fun hh => (by cases hh), fun hh => ?_⟩
    rcases this with e | e
    · exact absurd e hh.1
    · rw [e] at hh; exact absurd hh.2 (by simp)
  | false =>
    rw [h] at this
    simp only [Bool.false_eq_true, false_iff, not_or] at this
    exact ⟨fun _ => ⟨this.1, by cases hx : listed.getD j true with | false => rfl | true => exact absurd hx this.2⟩, fun _ => rfl⟩
end
open Go
section
variable {P : Program} {ro : Option Nat} {N κ : Nat} {tb : Nat → Option TI} {sp : Nat → Option Spec} {ops : Array Oper}
def memB (D : List Nat) (i : Nat) : Bool := D.any fun j => Nat.beq j i
theorem memB_iff {D : List Nat} {i : Nat} : memB D i = true ↔ i ∈ D := by
  unfold memB
  rw [List.any_eq_true]
  exact ⟨fun ⟨j, h1, h2⟩ => Nat.eq_of_beq_eq_true h2 ▸ h1, fun h => ⟨i, h, Nat.beq_refl i⟩⟩
theorem memB_false {D : List Nat} {i : Nat} : memB D i = false ↔ i ∉ D := by
  cases h : memB D i with
  | true => simp [memB_iff.1 h]
  | false => exact ⟨fun _ hh => (by rw [memB_iff.2 hh] at h; cases h), fun _ => rfl⟩
def awpS (P : Program) (ro : Option Nat) (N κ : Nat) (ops : Array Oper) (D : List Nat) (σ : St) (Q : Exit → St → Prop) : Prop :=
  ∀ n K Z ν w a, Good K Z N w ν σ a → ∀ (fuel : Nat) (listed : Array Bool), listed.size = ops.size → (∀ i, i < ops.size → listed.getD i true = memB D i) → ops.size ≤ fuel + D.length →
    wpAnyIn (FF ro) n P .any ops (Post N κ K Z w ν Q) fuel listed a w
theorem Zfm {D D' : List Nat} {σ : St} {Q : Exit → St → Prop} (hm : ∀ i, i ∈ D ↔ i ∈ D') (hl : D.length = D'.length) (h : awpS P ro N κ ops D σ Q) : awpS P ro N κ ops D' σ Q :=
  fun n K Z ν w a hg fuel listed h1 h2 h3 => h n K Z ν w a hg fuel listed h1 (fun i hi => by
    rw [h2 i hi]
    cases e : memB D i with
    | true => exact memB_iff.2 ((hm i).1 (memB_iff.1 e))
    | false => exact memB_false.2 fun hh => memB_false.1 e ((hm i).2 hh)) (by omega)
theorem run_set {Q : Exit → St → Prop} (hA : AncOK ops) {L0 : List Nat} {its : Nat → Item} (hop : ∀ i, i ∈ L0 → ∃ o, ops[i]? = some o ∧ Zhs P ro N ops o (its i))
    (hap0 : ∀ i j, i ∈ L0 → j ∈ L0 → j < i → j ∈ (ancs ops.toList []).getD i [] ∨ Apart (its j) (its i)) :
    ∀ (fuel : Nat) (D L : List Nat) (σ σ' : St) (wd : Option (Nat × Item)) (listed : Array Bool), listed.size = ops.size → (∀ i, i < ops.size → listed.getD i true = memB D i) → (∀ i, i ∈ L → i ∈ L0) → L.Pairwise (· < ·) → (∀ i, i ∈ L → i < ops.size ∧ i ∉ D) →
      ops.size ≤ fuel + D.length → D.length + L.length + (match wd with | some _ => 1 | none => 0) ≤ ops.size → Zht ops listed →
      (∀ i, i ∈ L → ∀ o, ops[i]? = some o → ∀ p, p ∈ Zbt o → p ∈ D ∨ p ∈ L) →
      (∀ i, i < ops.size → i ∉ D → i ∉ L → (∃ it, wd = some (i, it)) ∨ ∀ j, j ∈ L → j ∈ (ancs ops.toList []).getD i []) →
      (∀ x it, wd = some (x, it) → x < ops.size ∧ x ∉ D ∧ x ∉ L ∧ (∃ o, ops[x]? = some o ∧ Zhs P ro N ops o it) ∧ Fits N it σ' ∧ ∀ j, j ∈ L → Apart (its j) it) →
      Ziz κ σ → Zcs N its L σ σ' → awpS P ro N κ ops (D ++ L) σ' Q → (∀ x it, wd = some (x, it) → awpS P ro N κ ops (D ++ L ++ [x]) (it.app σ') Q) →
      ∀ n K Z ν w a, Good K Z N w ν σ a → wpAnyIn (FF ro) n P .any ops (Post N κ K Z w ν Q) fuel listed a w := by
  intro fuel
  induction fuel with
  | zero =>
    intro D L σ σ' wd listed hsz hD hL0 hpw hLD hfuel hlen hcl hpr hoth hwd hh hr hend hendW n K Z ν w a hg
    obtain rfl : L = [] := List.eq_nil_of_length_eq_zero (by omega)
    obtain rfl : σ = σ' := hr
    rw [List.append_nil] at hend
    exact hend n K Z ν w a hg 0 listed hsz hD hfuel
  | succ fuel ih =>
    intro D L σ σ' wd listed hsz hD hL0 hpw hLD hfuel hlen hcl hpr hoth hwd hh hr hend hendW n K Z ν w a hg
    cases hLe : L with
    | nil =>
      subst hLe
      obtain rfl : σ = σ' := hr
      rw [List.append_nil] at hend
      exact hend n K Z ν w a hg _ listed hsz hD hfuel
    | cons i0 L1 =>
    have hi0 : i0 ∈ L := hLe ▸ List.mem_cons_self
    refine ⟨fun hnil => ?_, fun i hi => ?_⟩
    · exfalso
      obtain ⟨hs, hnd⟩ := hLD i0 hi0
      have : i0 ∈ Region.ready .any ops listed := Zfp (Array.getElem?_eq_getElem hs) (by rw [hD i0 hs]; exact memB_false.2 hnd) fun p hp => by
        have hpi := (hA.up i0 hs _ (Array.getElem?_eq_getElem hs)).2 p hp
        refine ⟨by omega, ?_⟩
        rw [hD p (by omega)]
        rcases hpr i0 hi0 _ (Array.getElem?_eq_getElem hs) p hp with h | h
        · exact memB_iff.2 h
        · exfalso
          rw [hLe] at h hpw
          rcases List.mem_cons.1 h with rfl | h
          · omega
          · have := List.rel_of_pairwise_cons hpw h; omega
      rw [hnil] at this
      cases this
    · obtain ⟨h1, h2, h3⟩ := Zc3 hi
      have hnD : i ∉ D := memB_false.1 (by rw [← hD i h1]; exact h2)
      have hi2 : i < listed.size := by omega
      have hcl' : Zht ops (listed.setIfInBounds i true) := fun j oj hoj hlj p hp => by
        rw [Zdt hi2]
        rcases (Zdt hi2).1 hlj with rfl | h
        · exact .inr (h3 oj hoj p hp)
        · exact .inr (hcl j oj hoj h p hp)
      have hD' : ∀ j, j < ops.size → (listed.setIfInBounds i true).getD j true = memB (D ++ [i]) j := fun j hj => by
        cases e : memB (D ++ [i]) j with
        | true =>
          refine (Zdt hi2).2 ?_
          rcases List.mem_append.1 (memB_iff.1 e) with h | h
          · exact .inr (by rw [hD j hj]; exact memB_iff.2 h)
          · exact .inl (List.mem_singleton.1 h)
        | false =>
          have := memB_false.1 e
          rw [List.mem_append, List.mem_singleton, not_or] at this
          exact (set_getF hi2).2 ⟨this.2, by rw [hD j hj]; exact memB_false.2 this.1⟩
      by_cases hiL : i ∈ L
      · obtain ⟨o, ho, hrun⟩ := hop i (hL0 i hiL)
        clear hLe hi0
        obtain ⟨A, B, rfl⟩ := List.append_of_mem hiL
        have hA1 : ∀ j, j ∈ A → j < i := fun j hj => by
          rw [List.pairwise_append] at hpw
          exact hpw.2.2 j hj i List.mem_cons_self
        have hap : ∀ j, j ∈ A → Apart (its j) (its i) := by
          intro j hj
          have hjL := List.mem_append_left (i :: B) hj
          rcases hap0 i j (hL0 i hiL) (hL0 j hjL) (hA1 j hj) with h | h
          · have hd := Zdd hA hcl i h1 o ho (h3 o ho) j h
            rw [hD j (hLD j hjL).1] at hd
            exact absurd (memB_iff.1 hd) (hLD j hjL).2
          · exact h
        obtain ⟨f1, r1⟩ := Zfh A σ σ' hap hr
        unfold wpOpIn
        simp only [ho]
        refine hrun n K Z ν w a σ hg f1 _ _ ?_
        intro Z1 ν1 w1 a1 hs hν hg1
        have hmem : ∀ j, j ∈ A ++ B → j ∈ A ++ i :: B := fun j hj => by
          rcases List.mem_append.1 hj with h | h
          · exact List.mem_append_left _ h
          · exact List.mem_append_right _ (List.mem_cons_of_mem _ h)
        have hnd : i ∉ A ++ B := by
          have hne : (A ++ i :: B).Pairwise (· ≠ ·) := hpw.imp fun h => Nat.ne_of_lt h
          rw [List.pairwise_append] at hne
          intro h
          rcases List.mem_append.1 h with h | h
          · exact hne.2.2 i h i List.mem_cons_self rfl
          · exact List.rel_of_pairwise_cons hne.2.1 h rfl
        have hperm : ∀ j, j ∈ D ++ (A ++ i :: B) ↔ j ∈ D ++ [i] ++ (A ++ B) := fun j => by
          simp only [List.mem_append, List.mem_cons, List.not_mem_nil, or_false]
          constructor
          · rintro (h | h | h | h)
            · exact .inl (.inl h)
            · exact .inr (.inl h)
            · exact .inl (.inr h)
            · exact .inr (.inr h)
          · rintro ((h | h) | h | h)
            · exact .inl h
            · exact .inr (.inr (.inl h))
            · exact .inr (.inl h)
            · exact .inr (.inr (.inr h))
        have := ih (D ++ [i]) (A ++ B) _ σ' wd (listed.setIfInBounds i true) (by simpa using hsz) hD' (fun j hj => hL0 j (hmem j hj)) (hpw.sublist (List.Sublist.append (List.Sublist.refl A) (List.sublist_cons_self i B))) (fun j hj => ⟨(hLD j (hmem j hj)).1, fun h => by
            rcases List.mem_append.1 h with h | h
            · exact (hLD j (hmem j hj)).2 h
            · rw [List.mem_singleton.1 h] at hj; exact hnd hj⟩) (by simp; omega) (by simp at hlen ⊢; omega) hcl' (fun j hj oj hoj p hp => by
            rcases hpr j (hmem j hj) oj hoj p hp with h | h
            · exact .inl (List.mem_append_left _ h)
            · rcases List.mem_append.1 h with h | h
              · exact .inr (List.mem_append_left _ h)
              · rcases List.mem_cons.1 h with rfl | h
                · exact .inl (List.mem_append_right _ (List.mem_singleton.2 rfl))
                · exact .inr (List.mem_append_right _ h)) (fun j hj hjD hjL => by
            refine (hoth j hj (fun h => hjD (List.mem_append_left _ h)) (fun h => ?_)).imp id fun h q hq => h q (hmem q hq)
            rcases List.mem_append.1 h with h | h
            · exact hjL (List.mem_append_left _ h)
            · rcases List.mem_cons.1 h with rfl | h
              · exact hjD (List.mem_append_right _ (List.mem_singleton.2 rfl))
              · exact hjL (List.mem_append_right _ h)) (fun x it hx => by
            obtain ⟨w0, w1, w2, w3, w4, w5⟩ := hwd x it hx
            refine ⟨w0, fun h => ?_, fun h => w2 (hmem x h), w3, w4, fun j hj => w5 j (hmem j hj)⟩
            rcases List.mem_append.1 h with h | h
            · exact w1 h
            · exact w2 (by rw [List.mem_singleton.1 h]; exact List.mem_append_right _ List.mem_cons_self)) (Ze6 hh) r1
            (Zfm hperm (by simp; omega) hend) (fun x it hx => Zfm (fun j => by rw [List.mem_append, List.mem_append (s := D ++ [i] ++ (A ++ B)), hperm]) (by simp; omega) (hendW x it hx)) n _ _ ν1 w1 a1 hg1
        exact run_any.wpAnyIn_mono' this fun e a' w' hp => hp.trans hs (fun k hk => hν k (hh k hk))
      · rcases hoth i h1 hnD hiL with ⟨it, hx⟩ | hall
        · obtain ⟨w0, w1, w2, ⟨o, ho, hrun⟩, w4, w5⟩ := hwd i it hx
          -- the operation that may come at any time, taken now
          have hr2 : Zcs N (fun j => if j = i then it else its j) (L ++ [i]) σ (it.app σ') := by
            have : ∀ (L : List Nat) (σ : St), (∀ j, j ∈ L → j ≠ i) → Zcs N its L σ σ' → Zcs N (fun j => if j = i then it else its j) (L ++ [i]) σ (it.app σ') := by
              intro L
              induction L with
              | nil =>
                intro σ _ h
                obtain rfl : σ = σ' := h
                refine ⟨?_, ?_⟩
                · dsimp only; rw [if_pos rfl]; exact w4
                · show ((fun j => if j = i then it else its j) i).app σ = it.app σ
                  have e : (fun j => if j = i then it else its j) i = it := if_pos rfl
                  rw [e]
              | cons j L ih =>
                intro σ hne h
                obtain ⟨f, h⟩ := h
                have e : (fun j => if j = i then it else its j) j = its j := if_neg (hne j List.mem_cons_self)
                exact ⟨by rw [e]; exact f, by rw [e]; exact ih _ (fun q hq => hne q (List.mem_cons_of_mem _ hq)) h⟩
            exact this L σ (fun j hj e => hiL (e ▸ hj)) hr
          have hr3 := Zfh (B := []) L σ (it.app σ') (fun j hj => by
            have hji : ¬ j = i := fun e => hiL (e ▸ hj)
            rw [if_neg hji, if_pos rfl]; exact w5 j hj) hr2
          simp only [if_true, List.append_nil] at hr3
          obtain ⟨f1, r1⟩ := hr3
          have r1 : Zcs N its L (it.app σ) (it.app σ') := by
            have : ∀ (L : List Nat) (σ : St), (∀ j, j ∈ L → j ≠ i) → Zcs N (fun j => if j = i then it else its j) L σ (it.app σ') → Zcs N its L σ (it.app σ') := by
              intro L
              induction L with
              | nil => intro σ _ h; exact h
              | cons j L ih =>
                intro σ hne h
                obtain ⟨f, h⟩ := h
                have e : (fun j => if j = i then it else its j) j = its j := if_neg (hne j List.mem_cons_self)
                rw [e] at f h
                exact ⟨f, ih _ (fun q hq => hne q (List.mem_cons_of_mem _ hq)) h⟩
            exact this L _ (fun j hj e => hiL (e ▸ hj)) r1
          unfold wpOpIn
          simp only [ho]
          refine hrun n K Z ν w a σ hg f1 _ _ ?_
          intro Z1 ν1 w1' a1 hs hν hg1
          have hperm : ∀ j, j ∈ D ++ L ++ [i] ↔ j ∈ D ++ [i] ++ L := fun j => by
            simp only [List.mem_append, List.mem_cons, List.not_mem_nil, or_false]
            exact or_right_comm
          have hend2 := Zfm (P := P) (ro := ro) (N := N) (κ := κ) (ops := ops) hperm (by simp only [List.length_append]; omega) (hendW i it hx)
          rw [hx] at hlen
          dsimp only at hlen
          have := ih (D ++ [i]) L _ (it.app σ') none (listed.setIfInBounds i true) (by simpa using hsz) hD' hL0 hpw (fun j hj => ⟨(hLD j hj).1, fun h => by
              rcases List.mem_append.1 h with h | h
              · exact (hLD j hj).2 h
              · rw [List.mem_singleton.1 h] at hj; exact hiL hj⟩) (by simp; omega) (by simp; omega) hcl' (fun j hj oj hoj p hp => (hpr j hj oj hoj p hp).imp (List.mem_append_left _) id) (fun j hj hjD hjL => by
              refine .inr ((hoth j hj (fun h => hjD (List.mem_append_left _ h)) hjL).resolve_left ?_)
              rintro ⟨it', hx'⟩
              rw [hx] at hx'
              cases hx'
              exact hjD (List.mem_append_right _ (List.mem_singleton.2 rfl))) (fun x it' hx' => by cases hx') (Ze6 hh) r1 hend2 (fun x it' hx' => by cases hx') n _ _ ν1 w1' a1 hg1
          exact run_any.wpAnyIn_mono' this fun e a' w' hp => hp.trans hs (fun k hk => hν k (hh k hk))
        · exfalso
          have := Zdd hA hcl i h1 _ (Array.getElem?_eq_getElem h1) (h3 _ (Array.getElem?_eq_getElem h1)) i0 (hall i0 hi0)
          rw [hD i0 (hLD i0 hi0).1] at this
          exact (hLD i0 hi0).2 (memB_iff.1 this)
def incB : List Nat → Bool
  | a :: b :: t => Nat.blt a b && incB (b :: t)
  | _ => true
theorem incB_pw : ∀ {l : List Nat}, incB l = true → l.Pairwise (· < ·)
  | [], _ => .nil
  | [a], _ => by simp
  | a :: b :: t, h => by
    simp only [incB, Bool.and_eq_true, Nat.blt_eq] at h
    have ih := incB_pw h.2
    refine List.pairwise_cons.2 ⟨fun c hc => ?_, ih⟩
    rcases List.mem_cons.1 hc with rfl | hc
    · exact h.1
    · exact Nat.lt_trans h.1 (List.rel_of_pairwise_cons ih hc)
def setOK (all : List Oper) (D L ws : List Nat) (l wl : List Item) : Bool :=
  let A := ancs all []
  Zi5 all && incB L && (L.all fun i => Nat.blt i all.length && !memB D i) && Nat.ble (D.length + L.length + ws.length) all.length &&
  (D.all fun i => match all[i]? with | some o => (Zbt o).all (memB D) | none => false) && (L.all fun i => match all[i]? with | some o => (Zbt o).all fun p => memB D p || memB L p | none => false) &&
  ((List.range all.length).all fun i => memB D i || memB L i || memB ws i || L.all fun j => memB (A.getD i []) j) &&
  ((List.range L.length).all fun a => (List.range a).all fun b => memB (A.getD (L.getD a 0) []) (L.getD b 0) || Zhr (Zb7 l b) (Zb7 l a)) &&
  (ws.all fun x => Nat.blt x all.length && !memB D x && !memB L x && (List.range L.length).all fun b => Zhr (Zb7 l b) (Zb7 wl 0))
theorem runsTo_seq {its its' : Nat → Item} : ∀ {L L' : List Nat} {s s' : St}, L.map its = L'.map its' → Zcs N its L s s' → Zcs N its' L' s s'
  | [], [], _, _, _, h => h
  | [], _ :: _, _, _, he, _ => by cases he
  | _ :: _, [], _, _, he, _ => by cases he
  | a :: L, b :: L', s, s', he, h => by
    simp only [List.map_cons, List.cons.injEq] at he
    obtain ⟨f, h⟩ := h
    exact ⟨he.1 ▸ f, by rw [← he.1]; exact runsTo_seq he.2 h⟩
theorem Zfx (htb : Zc1 P tb) (hmz : ∀ t i, tb t = some i → men noK i.zero = true) (hsp : SpOK P sp) (ch : Nat → Bool) (k : Nat) {m : Nat} {all os wos : List Oper} {D : List Nat} (L ws : List Nat) {env : List (Nat × AV)} {l : List (Nat × Option Blk)} {ms : List Nat} {Q : Exit → St → Prop}
    (hos : L.map (fun i => all[i]?) = os.map some) (hws : ws.map (fun i => all[i]?) = wos.map some) (hw1 : ws.length ≤ 1) (hN : Zdh N os = true) (hNw : Zdh N wos = true) (hκ : Nat.ble κ (m + k) = true)
    (hd : setOK all D L ws (Zbv tb sp ch m all os k env l).its (Zbv tb sp ch m all wos (k + os.length) (Zbv tb sp ch m all os k env l).env (Zbv tb sp ch m all os k env l).l).its = true)
    (h : ∀ m' e' l' ob, evOut tb sp ch m all os k ⟨m + k, env, l, True⟩ = ⟨m', e', l', ob⟩ → Ob ob ∧ awpS P ro N κ all.toArray (D ++ L) (CS.st ⟨m', e', l', ms⟩) Q ∧
      (ws ≠ [] → ∀ m2 e2 l2 ob2, evOut tb sp ch m all wos (k + os.length) ⟨m', e', l', True⟩ = ⟨m2, e2, l2, ob2⟩ → Ob ob2 ∧ awpS P ro N κ all.toArray (D ++ L ++ ws) (CS.st ⟨m2, e2, l2, ms⟩) Q)) : awpS P ro N κ all.toArray D (CS.st ⟨m + k, env, l, ms⟩) Q := by
  obtain ⟨hob, hq, hq2⟩ := h _ _ _ _ rfl
  obtain ⟨h1, h2, h3, h4⟩ := Zeh ch m all os k (m + k) env l True hob
  rw [h1, h2, h4] at hq hq2
  have hfresh : ∀ j, m + k ≤ j → ltK (m + k) j = false := fun j hj => by show Nat.blt j (m + k) = false; cases hb : Nat.blt j (m + k) with | false => rfl | true => rw [Nat.blt_eq] at hb; omega
  obtain ⟨g1, g2, μ', g3, g4, g5⟩ := Zei (ro := ro) (N := N) htb hmz hsp ch m all ms os k env l (ltK (m + k)) hN hfresh h3
  generalize hE : Zbv tb sp ch m all os k env l = E at *
  simp only [setOK, Bool.and_eq_true, List.all_eq_true, List.mem_range, Bool.or_eq_true, Bool.not_eq_true', Nat.blt_eq] at hd
  obtain ⟨⟨⟨⟨⟨⟨⟨⟨d1, d2⟩, d3⟩, d4⟩, d5⟩, d6⟩, d7⟩, d8⟩, d9⟩ := hd
  have hA := anc_ok (ops := all.toArray) (by simpa using d1)
  have hpw := incB_pw d2
  have hLlen : L.length = os.length := by have := congrArg List.length hos; simpa using this
  have hat : ∀ i, i < L.length → all.toArray[L.getD i 0]? = os[i]? := fun i hi => by
    have := congrArg (fun q => q[i]?) hos
    simp only [List.getElem?_map, List.getElem?_eq_getElem hi, Option.map_some] at this
    rw [List.getElem?_toArray, List.getD_eq_getElem?_getD, List.getElem?_eq_getElem hi, Option.getD_some]
    have hi' : i < os.length := by omega
    rw [List.getElem?_eq_getElem hi'] at this ⊢
    simpa using this
  have hnd : L.Nodup := hpw.imp fun h => Nat.ne_of_lt h
  have hidx : ∀ i, i ∈ L → ∃ a, a < L.length ∧ L.getD a 0 = i ∧ L.idxOf i = a := fun i hi => by
    have hlt := List.idxOf_lt_length_of_mem hi
    refine ⟨L.idxOf i, hlt, ?_, rfl⟩
    rw [List.getD_eq_getElem?_getD, List.getElem?_eq_getElem hlt, Option.getD_some, List.getElem_idxOf hlt]
  have hidx2 : ∀ a, a < L.length → L.idxOf (L.getD a 0) = a := fun a ha => by
    rw [List.getD_eq_getElem?_getD, List.getElem?_eq_getElem ha, Option.getD_some]
    exact hnd.idxOf_getElem a ha
  have hlt : ∀ a b, a < L.length → b < L.length → L.getD b 0 < L.getD a 0 → b < a := fun a b ha hb h => by
    rcases Nat.lt_or_ge b a with h2 | h2
    · exact h2
    · exfalso
      rcases Nat.eq_or_lt_of_le h2 with rfl | h3
      · omega
      · have := List.pairwise_iff_getElem.1 hpw a b ha hb h3
        rw [List.getD_eq_getElem?_getD, List.getElem?_eq_getElem hb, Option.getD_some, List.getD_eq_getElem?_getD, List.getElem?_eq_getElem ha, Option.getD_some] at h
        omega
  have hgood : ∀ {n : Nat} {K Z : Nat → Prop} {w : World} {ν : Nat → Value} {a : Act} {μ : Nat → Bool} {e : Env} {rs : Rs} {m' : Nat}, (∀ j, m' ≤ j → μ j = false) → Good K Z N w ν ⟨μ, e, rs, ms⟩ a → Good K Z N w ν ⟨ltK m', e, rs, ms⟩ a := fun hμ hg => hg.widen fun j hj => by
    show Nat.blt j _ = true
    rw [Nat.blt_eq]
    rcases Nat.lt_or_ge j _ with h | h
    · exact h
    · rw [hμ j h] at hj; cases hj
  intro n K Z ν w a hg fuel listed hsz hD hfuel
  have hcl : Zht all.toArray listed := fun i o ho hl p hp => by
    have hi : i < all.toArray.size := (Array.getElem?_eq_some_iff.1 ho).1
    rw [hD i hi] at hl
    have := d5 i (memB_iff.1 hl)
    rw [List.getElem?_toArray] at ho
    rw [ho] at this
    dsimp only at this
    rw [List.all_eq_true] at this
    have hpi := (hA.up i hi o (by rw [List.getElem?_toArray]; exact ho)).2 p hp
    rw [hD p (by omega)]
    exact this p hp
  have hseq : Zcs N (fun i => Zb7 E.its (L.idxOf i)) L (CS.st ⟨m + k, env, l, ms⟩) ⟨μ', lke E.env, lkr E.l, ms⟩ := by
    refine runsTo_seq ?_ g5
    refine List.ext_getElem (by simp [hLlen]) fun t h1 h2 => ?_
    simp only [List.getElem_map, List.getElem_range']
    have ht : t < L.length := by simpa using h2
    have := hidx2 t ht
    rw [List.getD_eq_getElem?_getD, List.getElem?_eq_getElem ht, Option.getD_some] at this
    rw [this, show k + 1 * t - k = t from by omega]
  have main : ∀ wd : Option (Nat × Item), (match wd with | some _ => 1 | none => 0) = ws.length → (∀ x it, wd = some (x, it) → ws = [x] ∧ (∃ o, all.toArray[x]? = some o ∧ Zhs P ro N all.toArray o it) ∧ Fits N it ⟨μ', lke E.env, lkr E.l, ms⟩ ∧ it = Zb7 (Zbv tb sp ch m all wos (k + os.length) E.env E.l).its 0 ∧ awpS P ro N κ all.toArray (D ++ L ++ [x]) (it.app ⟨μ', lke E.env, lkr E.l, ms⟩) Q) → (ws = [] ∨ ∃ x it, wd = some (x, it)) →
      wpAnyIn (FF ro) n P .any all.toArray (Post N κ K Z w ν Q) fuel listed a w := fun wd hwl hwd hwx => by
    refine run_set hA (L0 := L) (its := fun i => Zb7 E.its (L.idxOf i)) (fun i hi => ?_) (fun i j hi hj hji => ?_) fuel D L (CS.st ⟨m + k, env, l, ms⟩) ⟨μ', lke E.env, lkr E.l, ms⟩ wd listed hsz hD (fun i hi => hi) hpw (fun i hi => ?_) hfuel (by rw [hwl, List.size_toArray]; exact Nat.le_of_ble_eq_true d4) hcl (fun i hi o ho p hp => ?_) (fun i hi hiD hiL => ?_) (fun x it hx => ?_) (fun j hj => ?_) hseq ?_ (fun x it hx => (hwd x it hx).2.2.2.2) n K Z ν w a hg
    · obtain ⟨t, ht, he, hx⟩ := hidx i hi
      have := hat t ht
      rw [he, List.getElem?_eq_getElem (show t < os.length by omega)] at this
      exact ⟨_, this, by rw [hx]; exact g2 t _ (List.getElem?_eq_getElem (by omega))⟩
    · obtain ⟨t, ht, he, hx⟩ := hidx i hi
      obtain ⟨u, hu, he2, hx2⟩ := hidx j hj
      have hut := hlt t u ht hu (by rw [he, he2]; exact hji)
      have := d8 t ht u hut
      rw [he, he2] at this
      rw [hx, hx2]
      rcases this with h | h
      · exact .inl (by simpa using memB_iff.1 h)
      · exact .inr (Zhh h)
    · obtain ⟨q1, q2⟩ := d3 i hi
      exact ⟨by simpa using q1, memB_false.1 q2⟩
    · have := d6 i hi
      rw [List.getElem?_toArray] at ho
      rw [ho] at this
      dsimp only at this
      rw [List.all_eq_true] at this
      have := this p hp
      rw [Bool.or_eq_true] at this
      exact this.imp memB_iff.1 memB_iff.1
    · rcases d7 i (by simpa using hi) with ((h | h) | h) | h
      · exact absurd (memB_iff.1 h) hiD
      · exact absurd (memB_iff.1 h) hiL
      · refine .inl ?_
        rcases hwx with h0 | ⟨x, it, hx⟩
        · rw [h0] at h; cases h
        · have := (hwd x it hx).1
          rw [this] at h
          have := List.mem_singleton.1 (memB_iff.1 h)
          exact ⟨it, by rw [this]; exact hx⟩
      · exact .inr fun j hj => by simpa using memB_iff.1 (h j hj)
    · obtain ⟨q1, q2, q3, q4, q5⟩ := hwd x it hx
      have hq := d9 x (by rw [q1]; exact List.mem_singleton.2 rfl)
      obtain ⟨⟨⟨r1, r2⟩, r3⟩, r4⟩ := hq
      refine ⟨by simpa using r1, memB_false.1 r2, memB_false.1 r3, q2, q3, fun j hj => ?_⟩
      obtain ⟨u, hu, he2, hx2⟩ := hidx j hj
      rw [hx2, q4]
      exact Zhh (r4 u hu)
    · show Nat.blt j (m + k) = true
      rw [Nat.blt_eq]
      have := Nat.le_of_ble_eq_true hκ
      omega
    · intro n K Z ν w a hg
      exact hq n K Z ν w a (hgood (n := 0) g3 hg)
  cases hwe : ws with
  | nil => exact main none (by rw [hwe]; rfl) (fun x it hx => by cases hx) (.inl hwe)
  | cons x t =>
    obtain rfl : t = [] := by rw [hwe] at hw1; simp at hw1; exact hw1
    obtain ⟨hob2, hq3⟩ := hq2 (by rw [hwe]; simp) _ _ _ _ rfl
    obtain ⟨e1, e2, e3, e4⟩ := Zeh ch m all wos (k + os.length) (m + k + os.length) E.env E.l True hob2
    rw [e1, e2, e4] at hq3
    obtain ⟨f1, f2, μ2, f3, f4, f5⟩ := Zei (ro := ro) (N := N) htb hmz hsp ch m all ms wos (k + os.length) E.env E.l μ' hNw (fun j hj => g3 j (by omega)) e3
    have hwos : ∃ o, wos = [o] ∧ all[x]? = some o := by
      rw [hwe] at hws
      simp only [List.map_cons, List.map_nil] at hws
      cases hwo : wos with
      | nil => rw [hwo] at hws; cases hws
      | cons o t =>
        cases t with
        | nil => rw [hwo] at hws; simp only [List.map_cons, List.map_nil, List.cons.injEq, and_true] at hws; exact ⟨o, rfl, hws⟩
        | cons _ _ => rw [hwo] at hws; simp at hws
    obtain ⟨o, rfl, hox⟩ := hwos
    obtain ⟨ff, f5⟩ := f5
    have hz : ∀ q : Nat, q - q = 0 := Nat.sub_self
    simp only [hz] at ff f5
    have hst : (Zb7 (Zbv tb sp ch m all [o] (k + os.length) E.env E.l).its 0).app ⟨μ', lke E.env, lkr E.l, ms⟩ = _ := f5
    refine main (some (x, Zb7 (Zbv tb sp ch m all [o] (k + os.length) E.env E.l).its 0)) (by rw [hwe]; rfl) (fun x' it hx => ?_) (.inr ⟨_, _, rfl⟩)
    cases hx
    refine ⟨hwe, ⟨o, by rw [List.getElem?_toArray]; exact hox, f2 0 o rfl⟩, ff, rfl, ?_⟩
    rw [hst]
    intro n K Z ν w a hg
    rw [hwe] at hq3
    exact hq3 n K Z ν w a (hgood (n := 0) (fun j hj => f3 j (by simp only [List.length_cons, List.length_nil] at hj ⊢; omega)) hg)
def brOK (all : List Oper) (D R : List Nat) : Bool :=
  let A := ancs all []
  Zi5 all && (R.all fun i => Nat.blt i all.length && !memB D i) && Nat.blt D.length all.length &&
  (D.all fun i => match all[i]? with | some o => (Zbt o).all (memB D) | none => false) && (match R with | [] => false | i :: _ => match all[i]? with | some o => (Zbt o).all (memB D) | none => false) &&
  ((List.range all.length).all fun i => memB D i || memB R i || (A.getD i []).any fun j => !memB D j)
theorem Zet {all : List Oper} {D : List Nat} (R : List Nat) {σ : St} {Q : Exit → St → Prop} (hd : brOK all D R = true)
    (h : ∀ i, i ∈ R → ∃ o, all[i]? = some o ∧ o.guard.isNone = true ∧ awpL P ro N κ [o] σ (Zek (fun s => awpS P ro N κ all.toArray (D ++ [i]) s Q) Q)) : awpS P ro N κ all.toArray D σ Q := by
  simp only [brOK, Bool.and_eq_true, List.all_eq_true, List.mem_range, Bool.or_eq_true, Bool.not_eq_true', Nat.blt_eq, List.any_eq_true] at hd
  obtain ⟨⟨⟨⟨⟨d1, d2⟩, d3⟩, d4⟩, d5⟩, d6⟩ := hd
  have hA := anc_ok (ops := all.toArray) (by simpa using d1)
  intro n K Z ν w a hg fuel listed hsz hD hfuel
  have hcl : Zht all.toArray listed := fun i o ho hl p hp => by
    have hi : i < all.toArray.size := (Array.getElem?_eq_some_iff.1 ho).1
    rw [hD i hi] at hl
    have := d4 i (memB_iff.1 hl)
    rw [List.getElem?_toArray] at ho
    rw [ho] at this
    dsimp only at this
    rw [List.all_eq_true] at this
    have hpi := (hA.up i hi o (by rw [List.getElem?_toArray]; exact ho)).2 p hp
    rw [hD p (by omega)]
    exact this p hp
  cases fuel with
  | zero => rw [List.size_toArray] at hfuel; omega
  | succ fuel =>
    refine ⟨fun hnil => ?_, fun i hi => ?_⟩
    · exfalso
      match R, d5, d2 with
      | i :: R, d5, d2 =>
        dsimp only at d5
        obtain ⟨o, ho, _⟩ := h i List.mem_cons_self
        rw [ho] at d5
        dsimp only at d5
        rw [List.all_eq_true] at d5
        obtain ⟨q1, q2⟩ := d2 i List.mem_cons_self
        have hs : i < all.toArray.size := by simpa using q1
        have ho' : all.toArray[i]? = some o := by rw [List.getElem?_toArray]; exact ho
        have : i ∈ Region.ready .any all.toArray listed := Zfp ho' (by rw [hD i hs]; exact q2) fun p hp => by
          have hpi := (hA.up i hs o ho').2 p hp
          exact ⟨by omega, by rw [hD p (by omega)]; exact d5 p hp⟩
        rw [hnil] at this
        cases this
    · obtain ⟨h1, h2, h3⟩ := Zc3 hi
      have hnD : memB D i = false := by rw [← hD i h1]; exact h2
      have hi2 : i < listed.size := by omega
      have hiR : i ∈ R := by
        rcases d6 i (by simpa using h1) with (h | h) | ⟨j, hj, h⟩
        · rw [hnD] at h; cases h
        · exact memB_iff.1 h
        · exfalso
          have hj' : j ∈ (ancs all.toArray.toList []).getD i [] := by simpa using hj
          have := Zdd hA hcl i h1 _ (Array.getElem?_eq_getElem h1) (h3 _ (Array.getElem?_eq_getElem h1)) j hj'
          have hji := ((hA.up i h1 _ (Array.getElem?_eq_getElem h1)).1 j hj').2
          rw [hD j (by omega)] at this
          rw [this] at h; cases h
      obtain ⟨o, ho, hgd, hh⟩ := h i hiR
      have ho' : all.toArray[i]? = some o := by rw [List.getElem?_toArray]; exact ho
      have hh := hh n K Z ν w a hg
      have hw0 : Region.wanted o (yielded #[] a.tmps) = true := Zco hgd _
      simp only [wpListIn, hw0, if_true] at hh
      unfold wpOpIn
      have hw1 : Region.wanted o (yielded all.toArray a.tmps) = true := Zco hgd _
      simp only [ho', hw1, if_true]
      have h2 : o.wpIn (FF ro) n P a w (fun a' w' => Post N κ K Z w ν (Zek (fun s => awpS P ro N κ all.toArray (D ++ [i]) s Q) Q) .normal a' w') (Post N κ K Z w ν (Zek (fun s => awpS P ro N κ all.toArray (D ++ [i]) s Q) Q)) := hh
      refine Ze0 (fun a' w' hp => ?_) (fun e a' w' he hp => ?_) h2
      · obtain ⟨Z', ν', σ', g1, g2, g3, g4⟩ := hp
        refine run_any.wpAnyIn_mono' (g4 n _ _ ν' w' a' g3 fuel (listed.setIfInBounds i true) (by simpa using hsz) (fun j hj => ?_) (by simp at hfuel ⊢; omega)) fun e a2 w2 hp => hp.trans g1 g2
        cases e : memB (D ++ [i]) j with
        | true =>
          refine (Zdt hi2).2 ?_
          rcases List.mem_append.1 (memB_iff.1 e) with h | h
          · exact .inr (by rw [hD j hj]; exact memB_iff.2 h)
          · exact .inl (List.mem_singleton.1 h)
        | false =>
          have := memB_false.1 e
          rw [List.mem_append, List.mem_singleton, not_or] at this
          exact (set_getF hi2).2 ⟨this.2, by rw [hD j hj]; exact memB_false.2 this.1⟩
      · obtain ⟨Z', ν', σ', g1, g2, g3, g4⟩ := hp
        refine ⟨Z', ν', σ', g1, g2, g3, ?_⟩
        cases e <;> first | exact absurd rfl he | exact g4
theorem Zhg {D : List Nat} {σ : St} {Q : Exit → St → Prop} (hk : (List.range ops.size).all (memB D) = true) (h : Q .normal σ) : awpS P ro N κ ops D σ Q := by
  rw [List.all_eq_true] at hk
  intro n K Z ν w a hg fuel listed hsz hD hfuel
  have hn : Region.ready .any ops listed = [] := by
    refine List.eq_nil_iff_forall_not_mem.2 fun i hi => ?_
    obtain ⟨h1, h2, _⟩ := Zc3 hi
    rw [hD i h1, hk i (List.mem_range.2 h1)] at h2; cases h2
  cases fuel with
  | zero => exact ⟨hn, Zcv hg h⟩
  | succ fuel => exact ⟨fun _ => Zcv hg h, fun i hi => by rw [hn] at hi; cases hi⟩
theorem awp_drawS (hmo : P.follows .mixedOrders = true) {id : Nat} {σ : St} {Q : Exit → St → Prop} (h : awpS P ro N κ ops [] σ Q) : awp P ro N κ (.region id ops true) σ Q := by
  intro n K Z ν w a hg
  refine wpIn_region_any hmo ?_
  have hstep : Step K Z w Z { w with drawn := w.drawn + 1 } := ⟨⟨rfl, rfl, rfl, Nat.le_refl _, fun _ _ => rfl⟩, fun _ h => h, fun _ h => .inl h⟩
  have hg1 := hg.drew (w.drawn + 1)
  refine run_any.wpAnyIn_mono' (h n K Z ν _ a hg1 ops.size (Array.replicate ops.size false) (by simp) (fun i hi => by simp [Array.getD_eq_getD_getElem?, Array.getElem?_replicate, hi, memB]) (by simp)) fun e a' w' hp => ?_
  have e := Post.trans (N := N) (κ := κ) (K := K) (Z := Z) (w := w) (ν := ν) hstep (fun _ _ => rfl) (by rw [Zbu hg.zk]; exact hp)
  exact e
end
end Go.Proofs.YtdhoadhkkecjjaaDoor.Cal
