/- Own texts of the proof, merged, in order. -/
import Derived.Test.YtbcghiagomkadaaS21
set_option linter.unusedVariables false
set_option linter.unusedSimpArgs false
namespace Go.Proofs.Ytbcghiagomkadaa.Cal
open Go Pl
def nxN (o : List Int) (x : List (List Int)) (pl : Int) (c : List Int) (v : Nat) : List Nat := (nxF ⟨o, [], x⟩ c pl v).map Int.toNat
theorem Zh2 {o p : List Int} {x : List (List Int)} {pl : Int} {c : List Int} {v : Nat} : nxF ⟨o, p, x⟩ c pl v = nxF ⟨o, [], x⟩ c pl v := rfl
structure RcS where
  L : List (Nat × Nat)
  i : Nat
  es : List (Int × Int × Nat)
  clk : Nat
structure RdS where
  L : List (Nat × Nat)
  j : Nat
  es : List (Int × Int × Nat)
  clk : Nat
noncomputable def spRc : Nat → Option Spec
  | 47 => some nxtS
  | _ => none
theorem Za2 : SpOK Try.prog spRc := by
  intro f S h
  unfold spRc at h
  split at h
  · cases h; exact next_ok
  · cases h
set_option maxRecDepth 4000 in
set_option maxHeartbeats 4000000 in
theorem reached_fg {o p c : List Int} {x : List (List Int)} {pl : Int} {fr fT : Nat} {X Y : AV} {th : Nat → Bool} (hn : o.length ≤ 20000) (hfr : fr < o.length) (hxl : x.length = o.length) (hcl : ∀ v, v < o.length → o.getD v 0 = pl → v < c.length)
    (hrow : ∀ v, v < o.length → (nxF ⟨o, p, x⟩ c pl v).length ≤ 64 ∧ ∀ j, j < (nxF ⟨o, p, x⟩ c pl v).length → 0 ≤ (nxF ⟨o, p, x⟩ c pl v).getD j 0 ∧ (nxF ⟨o, p, x⟩ c pl v).getD j 0 < (o.length : Int))
    (hT : ∀ w : Nat, w < o.length → FG Try.prog fT [.int .i64 w, .rop X, .rop Y] [] 0 (fun g => g = ⟨0, .bool (th w), []⟩)) :
    FG Try.prog 37 [.agg (.cons (.roI o) (.cons (.roI p) (.cons (.roII x) (.cons (.int .i64 pl) (.cons (.roI c) .nil))))), .int .i64 fr, .fn fT (.cons (.rop X) (.cons (.rop Y) .nil))] [] 0 fun g => ∃ (L : List (Nat × Nat)) (es : List (Int × Int × Nat)) (clk : Nat), (RE (nxN o x pl c) (fun w => th w = true) o.length fr L ∧ MQ es L) ∧ g = ⟨1, .own 0, [(0, some (.mp es clk))]⟩ := by
  refine Zd1 htb (fn := Try.f37) (by kernel_rfl) (by kernel_rfl) rfl (Nat.le_of_ble_eq_true rfl) fun hl => ?_
  simp only [lenP, mkL, lim] at hl
  repeat' first
    | with_reducible first | refine Zas ?_ | refine Zao ?_ | refine Zac ?_ | refine Zad ?_ | refine Zai ?_ | refine Zaq ?_ | refine Zah ?_ | refine Zak ?_ | refine Zar ?_ | refine Zat ?_ | refine Zap ?_ | refine Zam ?_ | refine Zaa ?_ | refine Zae ?_ | refine Zab ?_ | refine Zal ?_
    | ((with_reducible refine Zaj ?_ ?_); exact rfl)
    | ((with_reducible refine Zau ?_); refine Zan rfl ?_ ?_ <;> intro hb <;> (try simp only [zH] at hb))
    | ((with_reducible refine Zav 2 ?_ ?_); (· exact rfl); (first | refine Zaf htb hmz Za2 (fun _ => false) rfl rfl ?_ | refine Zag hmo htb hmz Za2 (fun _ => false) rfl rfl (by kernel_rfl) ?_); intro m' e' l' ob h; simp only [zE0, zE1, zE2, zE3, zE4, zE5, evp, evx, ev1, evLoad, evStore, evBin, isBoolK, forall_const, z38, tb, Nat.reduceAdd, Nat.reduceSub, Nat.reduceMul, Nat.reduceEqDiff, Nat.reduceLeDiff, Nat.reduceLT, Nat.reduceBEq, Nat.reduceBNe, ↓reduceIte, reduceIte, spRc, nxtS] at h; obtain ⟨rfl, rfl, rfl, rfl⟩ := h; refine ⟨?_, ?_⟩)
    | ((with_reducible refine Ob.mk ?_); first | exact trivial | (intros; omega) | ((repeat' first | apply And.intro | (intro hg; have hg' := hg; try simp only [zH] at hg')) <;> first | assumption | omega | (simp only [zH]; omega)))
  (refine Zaf htb hmz Za2 (fun i => Nat.beq i 1) rfl rfl ?_; intro m' e' l' ob h; simp only [zE0, zE1, zE2, zE3, zE4, zE5, evp, evx, ev1, evLoad, evStore, evBin, isBoolK, forall_const, z38, tb, Nat.reduceAdd, Nat.reduceSub, Nat.reduceMul, Nat.reduceEqDiff, Nat.reduceLeDiff, Nat.reduceLT, Nat.reduceBEq, Nat.reduceBNe, ↓reduceIte, reduceIte, spRc, nxtS] at h; obtain ⟨rfl, rfl, rfl, rfl⟩ := h; refine ⟨?_, ?_⟩)
  · first | ((with_reducible refine Ob.mk ?_); first | exact trivial | (intros; omega) | ((repeat' first | apply And.intro | (intro hg; have hg' := hg; try simp only [zH] at hg')) <;> first | assumption | omega | (simp only [zH]; omega))) | skip
  refine Zac ?_
  repeat' first
    | with_reducible first | refine Zas ?_ | refine Zao ?_ | refine Zac ?_ | refine Zad ?_ | refine Zai ?_ | refine Zaq ?_ | refine Zah ?_ | refine Zak ?_ | refine Zar ?_ | refine Zat ?_ | refine Zap ?_ | refine Zam ?_ | refine Zaa ?_ | refine Zae ?_ | refine Zab ?_ | refine Zal ?_
    | ((with_reducible refine Zaj ?_ ?_); exact rfl)
    | ((with_reducible refine Zau ?_); refine Zan rfl ?_ ?_ <;> intro hb <;> (try simp only [zH] at hb))
    | ((with_reducible refine Zav 3 ?_ ?_); (· exact rfl); (first | refine Zaf htb hmz Za2 (fun _ => false) rfl rfl ?_ | refine Zag hmo htb hmz Za2 (fun _ => false) rfl rfl (by kernel_rfl) ?_); intro m' e' l' ob h; simp only [zE0, zE1, zE2, zE3, zE4, zE5, evp, evx, ev1, evLoad, evStore, evBin, isBoolK, forall_const, z38, tb, Nat.reduceAdd, Nat.reduceSub, Nat.reduceMul, Nat.reduceEqDiff, Nat.reduceLeDiff, Nat.reduceLT, Nat.reduceBEq, Nat.reduceBNe, ↓reduceIte, reduceIte, spRc, nxtS] at h; obtain ⟨rfl, rfl, rfl, rfl⟩ := h; refine ⟨?_, ?_⟩)
    | ((with_reducible refine Ob.mk ?_); first | exact trivial | (intros; omega) | ((repeat' first | apply And.intro | (intro hg; have hg' := hg; try simp only [zH] at hg')) <;> first | assumption | omega | (simp only [zH]; omega)))
  refine Za1 (τ := RcS) (fun s => RQ (nxN o x pl c) (fun w => th w = true) o.length fr s.L s.i 0 ∧ MQ s.es s.L) (fun s => ⟨7, [(8, .own 5), (7, .own 2), (2, .fn fT (.cons (.rop X) (.cons (.rop Y) .nil))), (3, .rop (.agg (.cons (.roI o) (.cons (.roI p) (.cons (.roII x) (.cons (.int .i64 pl) (.cons (.roI c) .nil)))))))], [(5, some (.ints (castL ((qF fr s.L).drop s.i)))), (2, some (.mp s.es s.clk))], []⟩) (fun s => o.length + 1 - s.i) ⟨[], 0, [], 0⟩ [] ?_ ⟨RQ_first hfr, MQ_nil⟩ ?_
  · (refine ⟨rfl, ?_, ?_⟩ <;> simp only [zE0, zE1, zE2, zE3, zE4, zE5, evp, evx, ev1, evLoad, evStore, evBin, isBoolK, forall_const, z38, tb, Nat.reduceAdd, Nat.reduceSub, Nat.reduceMul, Nat.reduceEqDiff, Nat.reduceLeDiff, Nat.reduceLT, Nat.reduceBEq, Nat.reduceBNe, ↓reduceIte, reduceIte, spRc, nxtS, zI])
    rfl
  rintro ⟨L, i, es, clk⟩ ⟨hR, hM⟩
  dsimp only at hR hM ⊢
  have hLn := Zfs hR
  have hql := Zeg (fr := fr) (L := L)
  have hcl2 : (castL ((qF fr L).drop i)).length = L.length + 1 - i := by unfold castL; rw [List.length_map, List.length_drop, hql]
  repeat' first
    | with_reducible first | refine Zas ?_ | refine Zao ?_ | refine Zac ?_ | refine Zad ?_ | refine Zai ?_ | refine Zaq ?_ | refine Zah ?_ | refine Zak ?_ | refine Zar ?_ | refine Zat ?_ | refine Zap ?_ | refine Zam ?_ | refine Zaa ?_ | refine Zae ?_ | refine Zab ?_ | refine Zal ?_
    | ((with_reducible refine Zaj ?_ ?_); exact rfl)
    | ((with_reducible refine Zau ?_); refine Zan rfl ?_ ?_ <;> intro hb <;> (try simp only [zH] at hb))
    | ((with_reducible refine Zav 4 ?_ ?_); (· exact rfl); (with_reducible refine Zav 14 ?_ ?_); (· exact rfl); (first | refine Zaf htb hmz Za2 (fun _ => false) rfl rfl ?_ | refine Zag hmo htb hmz Za2 (fun _ => false) rfl rfl (by kernel_rfl) ?_); intro m' e' l' ob h; simp only [zE0, zE1, zE2, zE3, zE4, zE5, evp, evx, ev1, evLoad, evStore, evBin, isBoolK, forall_const, z38, tb, Nat.reduceAdd, Nat.reduceSub, Nat.reduceMul, Nat.reduceEqDiff, Nat.reduceLeDiff, Nat.reduceLT, Nat.reduceBEq, Nat.reduceBNe, ↓reduceIte, reduceIte, spRc, nxtS] at h; obtain ⟨rfl, rfl, rfl, rfl⟩ := h; refine ⟨?_, ?_⟩)
    | ((with_reducible refine Ob.mk ?_); first | exact trivial | (intros; omega) | ((repeat' first | apply And.intro | (intro hg; have hg' := hg; try simp only [zH] at hg')) <;> first | assumption | omega | (simp only [zH]; omega)))
  · have hi : i < (qF fr L).length := by omega
    obtain ⟨u, hu⟩ : ∃ u, (qF fr L)[i]? = some u := ⟨_, List.getElem?_eq_getElem hi⟩
    have hun : u < o.length := hR.lt u (List.mem_of_getElem? hu)
    have hg : (castL ((qF fr L).drop i)).getD 0 0 = (u : Int) := by
      unfold castL
      rw [List.getD_eq_getElem?_getD, List.getElem?_map, List.getElem?_drop, Nat.add_zero, hu]; rfl
    have hdr : List.drop 1 (castL ((qF fr L).drop i)) = castL ((qF fr L).drop (i + 1)) := by
      unfold castL
      rw [← List.map_drop, List.drop_drop]
    have hcu := hcl u hun
    obtain ⟨hr64, hrb⟩ := hrow u hun
    repeat' first
      | with_reducible first | refine Zas ?_ | refine Zao ?_ | refine Zac ?_ | refine Zad ?_ | refine Zai ?_ | refine Zaq ?_ | refine Zah ?_ | refine Zak ?_ | refine Zar ?_ | refine Zat ?_ | refine Zap ?_ | refine Zam ?_ | refine Zaa ?_ | refine Zae ?_ | refine Zab ?_ | refine Zal ?_
      | ((with_reducible refine Zaj ?_ ?_); exact rfl)
      | ((with_reducible refine Zau ?_); refine Zan rfl ?_ ?_ <;> intro hb <;> (try simp only [zH] at hb))
      | ((with_reducible refine Zav 6 ?_ ?_); (· exact rfl); (first | refine Zaf htb hmz Za2 (fun _ => false) rfl rfl ?_ | refine Zag hmo htb hmz Za2 (fun _ => false) rfl rfl (by kernel_rfl) ?_); intro m' e' l' ob h; simp only [zE0, zE1, zE2, zE3, zE4, zE5, evp, evx, ev1, evLoad, evStore, evBin, isBoolK, forall_const, z38, tb, Nat.reduceAdd, Nat.reduceSub, Nat.reduceMul, Nat.reduceEqDiff, Nat.reduceLeDiff, Nat.reduceLT, Nat.reduceBEq, Nat.reduceBNe, ↓reduceIte, reduceIte, spRc, nxtS] at h; obtain ⟨rfl, rfl, rfl, rfl⟩ := h; refine ⟨?_, ?_⟩)
      | ((with_reducible refine Ob.mk ?_); first | exact trivial | (intros; omega) | ((repeat' first | apply And.intro | (intro hg; have hg' := hg; try simp only [zH] at hg')) <;> first | assumption | omega | (simp only [zH]; omega)))
    rw [hg, hdr]
    repeat' first
      | with_reducible first | refine Zas ?_ | refine Zao ?_ | refine Zac ?_ | refine Zad ?_ | refine Zai ?_ | refine Zaq ?_ | refine Zah ?_ | refine Zak ?_ | refine Zar ?_ | refine Zat ?_ | refine Zap ?_ | refine Zam ?_ | refine Zaa ?_ | refine Zae ?_ | refine Zab ?_ | refine Zal ?_
      | ((with_reducible refine Zaj ?_ ?_); exact rfl)
      | ((with_reducible refine Zau ?_); refine Zan rfl ?_ ?_ <;> intro hb <;> (try simp only [zH] at hb))
      | ((with_reducible refine Zav 7 ?_ ?_); (· exact rfl); (first | refine Zaf htb hmz Za2 (fun _ => false) rfl rfl ?_ | refine Zag hmo htb hmz Za2 (fun _ => false) rfl rfl (by kernel_rfl) ?_); intro m' e' l' ob h; simp only [zE0, zE1, zE2, zE3, zE4, zE5, evp, evx, ev1, evLoad, evStore, evBin, isBoolK, forall_const, z38, tb, Nat.reduceAdd, Nat.reduceSub, Nat.reduceMul, Nat.reduceEqDiff, Nat.reduceLeDiff, Nat.reduceLT, Nat.reduceBEq, Nat.reduceBNe, ↓reduceIte, reduceIte, spRc, nxtS] at h; obtain ⟨rfl, rfl, rfl, rfl⟩ := h; refine ⟨?_, ?_⟩)
      | ((with_reducible refine Ob.mk ?_); first | exact trivial | (intros; omega) | ((repeat' first | apply And.intro | (intro hg; have hg' := hg; try simp only [zH] at hg')) <;> first | assumption | omega | (simp only [zH]; omega)))
    have hnx : nxN o x pl c u = (nxF ⟨o, p, x⟩ c pl u).map Int.toNat := rfl
    have hat : ∀ j, j < (nxF ⟨o, p, x⟩ c pl u).length → (nxN o x pl c u)[j]? = some ((nxF ⟨o, p, x⟩ c pl u).getD j 0).toNat := fun j hj => by
      rw [hnx, List.getElem?_map, List.getD_eq_getElem?_getD, List.getElem?_eq_getElem hj]; rfl
    have hxl2 : (nxN o x pl c u).length = (nxF ⟨o, p, x⟩ c pl u).length := by rw [hnx, List.length_map]
    clear hnx
    generalize nxF ⟨o, p, x⟩ c pl u = rw at *
    refine Za1 (τ := RdS) (fun s => RQ (nxN o x pl c) (fun w => th w = true) o.length fr s.L i s.j ∧ MQ s.es s.L ∧ (∃ L', s.L = L ++ L') ∧ s.j ≤ rw.length) (fun s => ⟨22, [(29, .int .i64 s.j), (28, .int .i64 rw.length), (27, .roI rw), (8, .own 15), (9, .int .i64 u), (7, .own 2), (2, .fn fT (.cons (.rop X) (.cons (.rop Y) .nil))), (3, .rop (.agg (.cons (.roI o) (.cons (.roI p) (.cons (.roII x) (.cons (.int .i64 pl) (.cons (.roI c) .nil)))))))], [(15, some (.ints (castL ((qF fr s.L).drop (i + 1))))), (2, some (.mp s.es s.clk))], []⟩) (fun s => rw.length - s.j) ⟨L, 0, es, clk⟩ [] ?_ ⟨hR, hM, ⟨[], by simp⟩, Nat.zero_le _⟩ ?_
    · (refine ⟨rfl, ?_, ?_⟩ <;> simp only [zE0, zE1, zE2, zE3, zE4, zE5, evp, evx, ev1, evLoad, evStore, evBin, isBoolK, forall_const, z38, tb, Nat.reduceAdd, Nat.reduceSub, Nat.reduceMul, Nat.reduceEqDiff, Nat.reduceLeDiff, Nat.reduceLT, Nat.reduceBEq, Nat.reduceBNe, ↓reduceIte, reduceIte, spRc, nxtS, zI])
    rintro ⟨L2, j, es2, clk2⟩ ⟨hR2, hM2, ⟨L', hLL⟩, hj⟩
    dsimp only at hR2 hM2 hLL hj ⊢
    subst hLL
    have hLn2 := Zfs hR2
    have hu2 : (qF fr (L ++ L'))[i]? = some u := by
      have : qF fr (L ++ L') = qF fr L ++ L'.map Prod.fst := by simp [qF]
      rw [this, List.getElem?_append_left hi, hu]
    have hlen2 : (castL ((qF fr (L ++ L')).drop (i + 1))).length ≤ 20001 := by
      unfold castL
      rw [List.length_map, List.length_drop, Zeg]; omega
    repeat' first
      | with_reducible first | refine Zas ?_ | refine Zao ?_ | refine Zac ?_ | refine Zad ?_ | refine Zai ?_ | refine Zaq ?_ | refine Zah ?_ | refine Zak ?_ | refine Zar ?_ | refine Zat ?_ | refine Zap ?_ | refine Zam ?_ | refine Zaa ?_ | refine Zae ?_ | refine Zab ?_ | refine Zal ?_
      | ((with_reducible refine Zaj ?_ ?_); exact rfl)
      | ((with_reducible refine Zau ?_); refine Zan rfl ?_ ?_ <;> intro hb <;> (try simp only [zH] at hb))
      | ((with_reducible refine Zav 8 ?_ ?_); (· exact rfl); (with_reducible refine Zav 14 ?_ ?_); (· exact rfl); (first | refine Zaf htb hmz Za2 (fun _ => false) rfl rfl ?_ | refine Zag hmo htb hmz Za2 (fun _ => false) rfl rfl (by kernel_rfl) ?_); intro m' e' l' ob h; simp only [zE0, zE1, zE2, zE3, zE4, zE5, evp, evx, ev1, evLoad, evStore, evBin, isBoolK, forall_const, z38, tb, Nat.reduceAdd, Nat.reduceSub, Nat.reduceMul, Nat.reduceEqDiff, Nat.reduceLeDiff, Nat.reduceLT, Nat.reduceBEq, Nat.reduceBNe, ↓reduceIte, reduceIte, spRc, nxtS] at h; obtain ⟨rfl, rfl, rfl, rfl⟩ := h; refine ⟨?_, ?_⟩)
      | ((with_reducible refine Ob.mk ?_); first | exact trivial | (intros; omega) | ((repeat' first | apply And.intro | (intro hg; have hg' := hg; try simp only [zH] at hg')) <;> first | assumption | omega | (simp only [zH]; omega)))
    · have hjl : j < rw.length := by omega
      obtain ⟨b1, b2⟩ := hrb j hjl
      obtain ⟨w, hw⟩ := Int.eq_ofNat_of_zero_le b1
      have hjw := hat j hjl
      rw [hw] at hjw b2
      rw [Int.toNat_natCast] at hjw
      have hwn : w < o.length := by omega
      have hT1 := hT w hwn
      have hhas := hM2.has w
      repeat' first
        | with_reducible first | refine Zas ?_ | refine Zao ?_ | refine Zac ?_ | refine Zad ?_ | refine Zai ?_ | refine Zaq ?_ | refine Zah ?_ | refine Zak ?_ | refine Zar ?_ | refine Zat ?_ | refine Zap ?_ | refine Zam ?_ | refine Zaa ?_ | refine Zae ?_ | refine Zab ?_ | refine Zal ?_
        | ((with_reducible refine Zaj ?_ ?_); exact rfl)
        | ((with_reducible refine Zau ?_); refine Zan rfl ?_ ?_ <;> intro hb <;> (try simp only [zH] at hb))
        | ((with_reducible refine Zav 9 ?_ ?_); (· exact rfl); (first | refine Zaf htb hmz Za2 (fun _ => false) rfl rfl ?_ | refine Zag hmo htb hmz Za2 (fun _ => false) rfl rfl (by kernel_rfl) ?_); intro m' e' l' ob h; simp only [zE0, zE1, zE2, zE3, zE4, zE5, evp, evx, ev1, evLoad, evStore, evBin, isBoolK, forall_const, z38, tb, Nat.reduceAdd, Nat.reduceSub, Nat.reduceMul, Nat.reduceEqDiff, Nat.reduceLeDiff, Nat.reduceLT, Nat.reduceBEq, Nat.reduceBNe, ↓reduceIte, reduceIte, spRc, nxtS] at h; obtain ⟨rfl, rfl, rfl, rfl⟩ := h; refine ⟨?_, ?_⟩)
        | ((with_reducible refine Ob.mk ?_); first | exact trivial | (intros; omega) | ((repeat' first | apply And.intro | (intro hg; have hg' := hg; try simp only [zH] at hg')) <;> first | assumption | omega | (simp only [zH]; omega)))
      rw [hw]
      repeat' first
        | with_reducible first | refine Zas ?_ | refine Zao ?_ | refine Zac ?_ | refine Zad ?_ | refine Zai ?_ | refine Zaq ?_ | refine Zah ?_ | refine Zak ?_ | refine Zar ?_ | refine Zat ?_ | refine Zap ?_ | refine Zam ?_ | refine Zaa ?_ | refine Zae ?_ | refine Zab ?_ | refine Zal ?_
        | ((with_reducible refine Zaj ?_ ?_); exact rfl)
        | ((with_reducible refine Zau ?_); refine Zan rfl ?_ ?_ <;> intro hb <;> (try simp only [zH] at hb))
        | ((with_reducible refine Zav 10 ?_ ?_); (· exact rfl); (first | refine Zaf htb hmz Za2 (fun _ => false) rfl rfl ?_ | refine Zag hmo htb hmz Za2 (fun _ => false) rfl rfl (by kernel_rfl) ?_); intro m' e' l' ob h; simp only [zE0, zE1, zE2, zE3, zE4, zE5, evp, evx, ev1, evLoad, evStore, evBin, isBoolK, forall_const, z38, tb, Nat.reduceAdd, Nat.reduceSub, Nat.reduceMul, Nat.reduceEqDiff, Nat.reduceLeDiff, Nat.reduceLT, Nat.reduceBEq, Nat.reduceBNe, ↓reduceIte, reduceIte, spRc, nxtS] at h; obtain ⟨rfl, rfl, rfl, rfl⟩ := h; refine ⟨?_, ?_⟩)
        | ((with_reducible refine Ob.mk ?_); first | exact trivial | (intros; omega) | ((repeat' first | apply And.intro | (intro hg; have hg' := hg; try simp only [zH] at hg')) <;> first | assumption | omega | (simp only [zH]; omega)))
      cases hh : mhas (w : Int) es2 with
      | true =>
        rw [hh] at hhas
        have hin : w ∈ (L ++ L').map Prod.fst := of_decide_eq_true hhas.symm
        have hR3 := Zgu hR2 hu2 hjw (.inl hin)
        refine Zdc ?_
        refine Zbi rfl ?_
        dsimp only [noGd]
        refine Zaz htb hmz Za2 (fun _ => false) rfl rfl rfl ?_; intro m' e' l' ob h; simp only [zE0, zE1, zE2, zE3, zE4, zE5, evp, evx, ev1, evLoad, evStore, evBin, isBoolK, forall_const, z38, tb, Nat.reduceAdd, Nat.reduceSub, Nat.reduceMul, Nat.reduceEqDiff, Nat.reduceLeDiff, Nat.reduceLT, Nat.reduceBEq, Nat.reduceBNe, ↓reduceIte, reduceIte, spRc, nxtS] at h; obtain ⟨rfl, rfl, rfl, rfl⟩ := h; refine ⟨?_, Zac ?_⟩
        · first | ((with_reducible refine Ob.mk ?_); first | exact trivial | (intros; omega) | ((repeat' first | apply And.intro | (intro hg; have hg' := hg; try simp only [zH] at hg')) <;> first | assumption | omega | (simp only [zH]; omega))) | skip
        refine Zbi rfl ?_
        dsimp only [noGd]
        refine Zaz htb hmz Za2 (fun _ => false) rfl rfl rfl ?_; intro m' e' l' ob h; simp only [zE0, zE1, zE2, zE3, zE4, zE5, evp, evx, ev1, evLoad, evStore, evBin, isBoolK, forall_const, z38, tb, Nat.reduceAdd, Nat.reduceSub, Nat.reduceMul, Nat.reduceEqDiff, Nat.reduceLeDiff, Nat.reduceLT, Nat.reduceBEq, Nat.reduceBNe, ↓reduceIte, reduceIte, spRc, nxtS] at h; obtain ⟨rfl, rfl, rfl, rfl⟩ := h; refine ⟨?_, Zac ?_⟩
        · first | ((with_reducible refine Ob.mk ?_); first | exact trivial | (intros; omega) | ((repeat' first | apply And.intro | (intro hg; have hg' := hg; try simp only [zH] at hg')) <;> first | assumption | omega | (simp only [zH]; omega))) | skip
        refine Zb5 rfl rfl rfl rfl rfl ?_
        refine Zb5 rfl rfl rfl rfl rfl ?_
        refine Zb5 rfl rfl rfl rfl rfl ?_
        refine Zb5 rfl rfl rfl rfl rfl ?_
        refine Zbi rfl ?_
        dsimp only [noGd, putE]
        refine Zaz htb hmz Za2 (fun _ => false) rfl rfl rfl ?_; intro m' e' l' ob h; simp only [zE0, zE1, zE2, zE3, zE4, zE5, evp, evx, ev1, evLoad, evStore, evBin, isBoolK, forall_const, z38, tb, Nat.reduceAdd, Nat.reduceSub, Nat.reduceMul, Nat.reduceEqDiff, Nat.reduceLeDiff, Nat.reduceLT, Nat.reduceBEq, Nat.reduceBNe, ↓reduceIte, reduceIte, spRc, nxtS] at h; obtain ⟨rfl, rfl, rfl, rfl⟩ := h; refine ⟨?_, Zac ?_⟩
        · first | ((with_reducible refine Ob.mk ?_); first | exact trivial | (intros; omega) | ((repeat' first | apply And.intro | (intro hg; have hg' := hg; try simp only [zH] at hg')) <;> first | assumption | omega | (simp only [zH]; omega))) | skip
        refine Zd0 ?_
        repeat' first
          | with_reducible first | refine Zas ?_ | refine Zao ?_ | refine Zac ?_ | refine Zad ?_ | refine Zai ?_ | refine Zaq ?_ | refine Zah ?_ | refine Zak ?_ | refine Zar ?_ | refine Zat ?_ | refine Zap ?_ | refine Zam ?_ | refine Zaa ?_ | refine Zae ?_ | refine Zab ?_ | refine Zal ?_
          | ((with_reducible refine Zaj ?_ ?_); exact rfl)
          | ((with_reducible refine Zau ?_); refine Zan rfl ?_ ?_ <;> intro hb <;> (try simp only [zH] at hb))
          | ((with_reducible refine Zav 11 ?_ ?_); (· exact rfl); (first | refine Zaf htb hmz Za2 (fun _ => false) rfl rfl ?_ | refine Zag hmo htb hmz Za2 (fun _ => false) rfl rfl (by kernel_rfl) ?_); intro m' e' l' ob h; simp only [zE0, zE1, zE2, zE3, zE4, zE5, evp, evx, ev1, evLoad, evStore, evBin, isBoolK, forall_const, z38, tb, Nat.reduceAdd, Nat.reduceSub, Nat.reduceMul, Nat.reduceEqDiff, Nat.reduceLeDiff, Nat.reduceLT, Nat.reduceBEq, Nat.reduceBNe, ↓reduceIte, reduceIte, spRc, nxtS] at h; obtain ⟨rfl, rfl, rfl, rfl⟩ := h; refine ⟨?_, ?_⟩)
          | ((with_reducible refine Ob.mk ?_); first | exact trivial | (intros; omega) | ((repeat' first | apply And.intro | (intro hg; have hg' := hg; try simp only [zH] at hg')) <;> first | assumption | omega | (simp only [zH]; omega)))
        · refine back ⟨L ++ L', j + 1, es2, clk2⟩ [] ?_ ⟨hR3, hM2, ⟨L', rfl⟩, by dsimp only; omega⟩ (by dsimp only; omega)
          (refine ⟨rfl, ?_, ?_⟩ <;> simp only [zE0, zE1, zE2, zE3, zE4, zE5, evp, evx, ev1, evLoad, evStore, evBin, isBoolK, forall_const, z38, tb, Nat.reduceAdd, Nat.reduceSub, Nat.reduceMul, Nat.reduceEqDiff, Nat.reduceLeDiff, Nat.reduceLT, Nat.reduceBEq, Nat.reduceBNe, ↓reduceIte, reduceIte, spRc, nxtS, zI])
        · cases hb
      | false =>
        rw [hh] at hhas
        have hni : w ∉ (L ++ L').map Prod.fst := of_decide_eq_false hhas.symm
        refine Zdc ?_
        refine Zbi rfl ?_
        dsimp only [noGd]
        refine Zaz htb hmz Za2 (fun _ => false) rfl rfl rfl ?_; intro m' e' l' ob h; simp only [zE0, zE1, zE2, zE3, zE4, zE5, evp, evx, ev1, evLoad, evStore, evBin, isBoolK, forall_const, z38, tb, Nat.reduceAdd, Nat.reduceSub, Nat.reduceMul, Nat.reduceEqDiff, Nat.reduceLeDiff, Nat.reduceLT, Nat.reduceBEq, Nat.reduceBNe, ↓reduceIte, reduceIte, spRc, nxtS] at h; obtain ⟨rfl, rfl, rfl, rfl⟩ := h; refine ⟨?_, Zac ?_⟩
        · first | ((with_reducible refine Ob.mk ?_); first | exact trivial | (intros; omega) | ((repeat' first | apply And.intro | (intro hg; have hg' := hg; try simp only [zH] at hg')) <;> first | assumption | omega | (simp only [zH]; omega))) | skip
        refine Zbi rfl ?_
        dsimp only [noGd]
        refine Zaz htb hmz Za2 (fun _ => false) rfl rfl rfl ?_; intro m' e' l' ob h; simp only [zE0, zE1, zE2, zE3, zE4, zE5, evp, evx, ev1, evLoad, evStore, evBin, isBoolK, forall_const, z38, tb, Nat.reduceAdd, Nat.reduceSub, Nat.reduceMul, Nat.reduceEqDiff, Nat.reduceLeDiff, Nat.reduceLT, Nat.reduceBEq, Nat.reduceBNe, ↓reduceIte, reduceIte, spRc, nxtS] at h; obtain ⟨rfl, rfl, rfl, rfl⟩ := h; refine ⟨?_, Zac ?_⟩
        · first | ((with_reducible refine Ob.mk ?_); first | exact trivial | (intros; omega) | ((repeat' first | apply And.intro | (intro hg; have hg' := hg; try simp only [zH] at hg')) <;> first | assumption | omega | (simp only [zH]; omega))) | skip
        refine Zbs rfl rfl rfl rfl ?_
        dsimp only [noGd]
        refine Zaz htb hmz Za2 (fun _ => false) rfl rfl rfl ?_; intro m' e' l' ob h; simp only [zE0, zE1, zE2, zE3, zE4, zE5, evp, evx, ev1, evLoad, evStore, evBin, isBoolK, forall_const, z38, tb, Nat.reduceAdd, Nat.reduceSub, Nat.reduceMul, Nat.reduceEqDiff, Nat.reduceLeDiff, Nat.reduceLT, Nat.reduceBEq, Nat.reduceBNe, ↓reduceIte, reduceIte, spRc, nxtS] at h; obtain ⟨rfl, rfl, rfl, rfl⟩ := h; refine ⟨?_, Zac ?_⟩
        · first | ((with_reducible refine Ob.mk ?_); first | exact trivial | (intros; omega) | ((repeat' first | apply And.intro | (intro hg; have hg' := hg; try simp only [zH] at hg')) <;> first | assumption | omega | (simp only [zH]; omega))) | skip
        refine Zbs rfl rfl rfl rfl ?_
        dsimp only [noGd]
        refine Zaz htb hmz Za2 (fun _ => false) rfl rfl rfl ?_; intro m' e' l' ob h; simp only [zE0, zE1, zE2, zE3, zE4, zE5, evp, evx, ev1, evLoad, evStore, evBin, isBoolK, forall_const, z38, tb, Nat.reduceAdd, Nat.reduceSub, Nat.reduceMul, Nat.reduceEqDiff, Nat.reduceLeDiff, Nat.reduceLT, Nat.reduceBEq, Nat.reduceBNe, ↓reduceIte, reduceIte, spRc, nxtS] at h; obtain ⟨rfl, rfl, rfl, rfl⟩ := h; refine ⟨?_, Zac ?_⟩
        · first | ((with_reducible refine Ob.mk ?_); first | exact trivial | (intros; omega) | ((repeat' first | apply And.intro | (intro hg; have hg' := hg; try simp only [zH] at hg')) <;> first | assumption | omega | (simp only [zH]; omega))) | skip
        refine Zbs rfl rfl rfl rfl ?_
        dsimp only [noGd]
        refine Zbh ([]) (hT1) rfl rfl rfl rfl rfl rfl rfl rfl rfl (by simp only [rinR, rhoC, zE0, zE1, zE2, zE3, zE4, zE5, evp, evx, ev1, evLoad, evStore, evBin, isBoolK, forall_const, z38, tb, Nat.reduceAdd, Nat.reduceSub, Nat.reduceMul, Nat.reduceEqDiff, Nat.reduceLeDiff, Nat.reduceLT, Nat.reduceBEq, Nat.reduceBNe, ↓reduceIte, reduceIte, spRc, nxtS]) ?_; intro gm gv gr hq m' e' l' h; simp only [GR.mk.injEq] at hq; obtain ⟨rfl, rfl, rfl⟩ := hq; simp only [rhoC, outR, renR, dels, zE0, zE1, zE2, zE3, zE4, zE5, evp, evx, ev1, evLoad, evStore, evBin, isBoolK, forall_const, z38, tb, Nat.reduceAdd, Nat.reduceSub, Nat.reduceMul, Nat.reduceEqDiff, Nat.reduceLeDiff, Nat.reduceLT, Nat.reduceBEq, Nat.reduceBNe, ↓reduceIte, reduceIte, spRc, nxtS] at h; obtain ⟨rfl, rfl, rfl⟩ := h; refine Zac ?_
        refine Zbs rfl rfl rfl rfl ?_
        dsimp only [noGd]
        refine Zaz htb hmz Za2 (fun _ => false) rfl rfl rfl ?_; intro m' e' l' ob h; simp only [zE0, zE1, zE2, zE3, zE4, zE5, evp, evx, ev1, evLoad, evStore, evBin, isBoolK, forall_const, z38, tb, Nat.reduceAdd, Nat.reduceSub, Nat.reduceMul, Nat.reduceEqDiff, Nat.reduceLeDiff, Nat.reduceLT, Nat.reduceBEq, Nat.reduceBNe, ↓reduceIte, reduceIte, spRc, nxtS] at h; obtain ⟨rfl, rfl, rfl, rfl⟩ := h; refine ⟨?_, Zac ?_⟩
        · first | ((with_reducible refine Ob.mk ?_); first | exact trivial | (intros; omega) | ((repeat' first | apply And.intro | (intro hg; have hg' := hg; try simp only [zH] at hg')) <;> first | assumption | omega | (simp only [zH]; omega))) | skip
        refine Zbi rfl ?_
        dsimp only [noGd, putE]
        refine Zaz htb hmz Za2 (fun _ => false) rfl rfl rfl ?_; intro m' e' l' ob h; simp only [zE0, zE1, zE2, zE3, zE4, zE5, evp, evx, ev1, evLoad, evStore, evBin, isBoolK, forall_const, z38, tb, Nat.reduceAdd, Nat.reduceSub, Nat.reduceMul, Nat.reduceEqDiff, Nat.reduceLeDiff, Nat.reduceLT, Nat.reduceBEq, Nat.reduceBNe, ↓reduceIte, reduceIte, spRc, nxtS] at h; obtain ⟨rfl, rfl, rfl, rfl⟩ := h; refine ⟨?_, Zac ?_⟩
        · first | ((with_reducible refine Ob.mk ?_); first | exact trivial | (intros; omega) | ((repeat' first | apply And.intro | (intro hg; have hg' := hg; try simp only [zH] at hg')) <;> first | assumption | omega | (simp only [zH]; omega))) | skip
        refine Zd0 ?_
        repeat' first
          | with_reducible first | refine Zas ?_ | refine Zao ?_ | refine Zac ?_ | refine Zad ?_ | refine Zai ?_ | refine Zaq ?_ | refine Zah ?_ | refine Zak ?_ | refine Zar ?_ | refine Zat ?_ | refine Zap ?_ | refine Zam ?_ | refine Zaa ?_ | refine Zae ?_ | refine Zab ?_ | refine Zal ?_
          | ((with_reducible refine Zaj ?_ ?_); exact rfl)
          | ((with_reducible refine Zau ?_); refine Zan rfl ?_ ?_ <;> intro hb <;> (try simp only [zH] at hb))
          | ((with_reducible refine Zav 11 ?_ ?_); (· exact rfl); (first | refine Zaf htb hmz Za2 (fun _ => false) rfl rfl ?_ | refine Zag hmo htb hmz Za2 (fun _ => false) rfl rfl (by kernel_rfl) ?_); intro m' e' l' ob h; simp only [zE0, zE1, zE2, zE3, zE4, zE5, evp, evx, ev1, evLoad, evStore, evBin, isBoolK, forall_const, z38, tb, Nat.reduceAdd, Nat.reduceSub, Nat.reduceMul, Nat.reduceEqDiff, Nat.reduceLeDiff, Nat.reduceLT, Nat.reduceBEq, Nat.reduceBNe, ↓reduceIte, reduceIte, spRc, nxtS] at h; obtain ⟨rfl, rfl, rfl, rfl⟩ := h; refine ⟨?_, ?_⟩)
          | ((with_reducible refine Ob.mk ?_); first | exact trivial | (intros; omega) | ((repeat' first | apply And.intro | (intro hg; have hg' := hg; try simp only [zH] at hg')) <;> first | assumption | omega | (simp only [zH]; omega)))
        · have hth : ¬ th w = true := by rw [hb]; decide
          have hR3 := Zgu hR2 hu2 hjw (.inr hth)
          refine back ⟨L ++ L', j + 1, es2, clk2⟩ [] ?_ ⟨hR3, hM2, ⟨L', rfl⟩, by dsimp only; omega⟩ (by dsimp only; omega)
          (refine ⟨rfl, ?_, ?_⟩ <;> simp only [zE0, zE1, zE2, zE3, zE4, zE5, evp, evx, ev1, evLoad, evStore, evBin, isBoolK, forall_const, z38, tb, Nat.reduceAdd, Nat.reduceSub, Nat.reduceMul, Nat.reduceEqDiff, Nat.reduceLeDiff, Nat.reduceLT, Nat.reduceBEq, Nat.reduceBNe, ↓reduceIte, reduceIte, spRc, nxtS, zI])
        · have hth : th w = true := hb
          have hR3 := RQ_add hR2 hu2 hjw hwn hni hth
          have hM3 := MQ_put (u := u) (c := clk2) hM2 hni
          have hq3 : castL ((qF fr (L ++ L')).drop (i + 1)) ++ [(w : Int)] = castL ((qF fr (L ++ L' ++ [(w, u)])).drop (i + 1)) := by
            rw [Zd7, List.drop_append_of_le_length (by simp [qF]; simp [qF] at hi; omega)]
            unfold castL
            rw [List.map_append]; rfl
          repeat' first
            | with_reducible first | refine Zas ?_ | refine Zao ?_ | refine Zac ?_ | refine Zad ?_ | refine Zai ?_ | refine Zaq ?_ | refine Zah ?_ | refine Zak ?_ | refine Zar ?_ | refine Zat ?_ | refine Zap ?_ | refine Zam ?_ | refine Zaa ?_ | refine Zae ?_ | refine Zab ?_ | refine Zal ?_
            | ((with_reducible refine Zaj ?_ ?_); exact rfl)
            | ((with_reducible refine Zau ?_); refine Zan rfl ?_ ?_ <;> intro hb <;> (try simp only [zH] at hb))
            | ((with_reducible refine Zav 12 ?_ ?_); (· exact rfl); (first | refine Zaf htb hmz Za2 (fun _ => false) rfl rfl ?_ | refine Zag hmo htb hmz Za2 (fun _ => false) rfl rfl (by kernel_rfl) ?_); intro m' e' l' ob h; simp only [zE0, zE1, zE2, zE3, zE4, zE5, evp, evx, ev1, evLoad, evStore, evBin, isBoolK, forall_const, z38, tb, Nat.reduceAdd, Nat.reduceSub, Nat.reduceMul, Nat.reduceEqDiff, Nat.reduceLeDiff, Nat.reduceLT, Nat.reduceBEq, Nat.reduceBNe, ↓reduceIte, reduceIte, spRc, nxtS] at h; obtain ⟨rfl, rfl, rfl, rfl⟩ := h; refine ⟨?_, ?_⟩)
            | ((with_reducible refine Ob.mk ?_); first | exact trivial | (intros; omega) | ((repeat' first | apply And.intro | (intro hg; have hg' := hg; try simp only [zH] at hg')) <;> first | assumption | omega | (simp only [zH]; omega)))
          repeat' first
            | with_reducible first | refine Zas ?_ | refine Zao ?_ | refine Zac ?_ | refine Zad ?_ | refine Zai ?_ | refine Zaq ?_ | refine Zah ?_ | refine Zak ?_ | refine Zar ?_ | refine Zat ?_ | refine Zap ?_ | refine Zam ?_ | refine Zaa ?_ | refine Zae ?_ | refine Zab ?_ | refine Zal ?_
            | ((with_reducible refine Zaj ?_ ?_); exact rfl)
            | ((with_reducible refine Zau ?_); refine Zan rfl ?_ ?_ <;> intro hb <;> (try simp only [zH] at hb))
            | ((with_reducible refine Za0 ?_); (first | refine Zaf htb hmz Za2 (fun _ => false) rfl rfl ?_ | refine Zag hmo htb hmz Za2 (fun _ => false) rfl rfl (by kernel_rfl) ?_); intro m' e' l' ob h; simp only [zE0, zE1, zE2, zE3, zE4, zE5, evp, evx, ev1, evLoad, evStore, evBin, isBoolK, forall_const, z38, tb, Nat.reduceAdd, Nat.reduceSub, Nat.reduceMul, Nat.reduceEqDiff, Nat.reduceLeDiff, Nat.reduceLT, Nat.reduceBEq, Nat.reduceBNe, ↓reduceIte, reduceIte, spRc, nxtS] at h; obtain ⟨rfl, rfl, rfl, rfl⟩ := h; refine ⟨?_, ?_⟩)
            | ((with_reducible refine Ob.mk ?_); first | exact trivial | (intros; omega) | ((repeat' first | apply And.intro | (intro hg; have hg' := hg; try simp only [zH] at hg')) <;> first | assumption | omega | (simp only [zH]; omega)))
          refine back ⟨L ++ L' ++ [(w, u)], j + 1, mput w u clk2 es2, mclk w clk2 es2⟩ [(15, 47)] ?_ ⟨hR3, hM3, ⟨L' ++ [(w, u)], by simp⟩, by dsimp only; omega⟩ (by dsimp only; omega)
          (refine ⟨rfl, ?_, ?_⟩ <;> simp only [zE0, zE1, zE2, zE3, zE4, zE5, evp, evx, ev1, evLoad, evStore, evBin, isBoolK, forall_const, z38, tb, Nat.reduceAdd, Nat.reduceSub, Nat.reduceMul, Nat.reduceEqDiff, Nat.reduceLeDiff, Nat.reduceLT, Nat.reduceBEq, Nat.reduceBNe, ↓reduceIte, reduceIte, spRc, nxtS, zI])
          exact hq3
    have hje : j = rw.length := by omega
    subst hje
    have hR4 := RQ_next hR2 hu2 (by rw [hxl2]; exact Nat.le_refl _)
    have hLn3 := Zfs hR4
    have hi3 := hR4.hi
    rw [Zeg] at hi3
    refine back ⟨L ++ L', i + 1, es2, clk2⟩ [(5, 15)] ?_ ⟨hR4, hM2⟩ (by dsimp only; omega)
    (refine ⟨rfl, ?_, ?_⟩ <;> simp only [zE0, zE1, zE2, zE3, zE4, zE5, evp, evx, ev1, evLoad, evStore, evBin, isBoolK, forall_const, z38, tb, Nat.reduceAdd, Nat.reduceSub, Nat.reduceMul, Nat.reduceEqDiff, Nat.reduceLeDiff, Nat.reduceLT, Nat.reduceBEq, Nat.reduceBNe, ↓reduceIte, reduceIte, spRc, nxtS, zI])
  have hie : i = (qF fr L).length := by have := hR.hi; omega
  subst hie
  repeat' first
    | with_reducible first | refine Zas ?_ | refine Zao ?_ | refine Zac ?_ | refine Zad ?_ | refine Zai ?_ | refine Zaq ?_ | refine Zah ?_ | refine Zak ?_ | refine Zar ?_ | refine Zat ?_ | refine Zap ?_ | refine Zam ?_ | refine Zaa ?_ | refine Zae ?_ | refine Zab ?_ | refine Zal ?_
    | ((with_reducible refine Zaj ?_ ?_); exact rfl)
    | ((with_reducible refine Zau ?_); refine Zan rfl ?_ ?_ <;> intro hb <;> (try simp only [zH] at hb))
    | ((with_reducible refine Za0 ?_); (first | refine Zaf htb hmz Za2 (fun _ => false) rfl rfl ?_ | refine Zag hmo htb hmz Za2 (fun _ => false) rfl rfl (by kernel_rfl) ?_); intro m' e' l' ob h; simp only [zE0, zE1, zE2, zE3, zE4, zE5, evp, evx, ev1, evLoad, evStore, evBin, isBoolK, forall_const, z38, tb, Nat.reduceAdd, Nat.reduceSub, Nat.reduceMul, Nat.reduceEqDiff, Nat.reduceLeDiff, Nat.reduceLT, Nat.reduceBEq, Nat.reduceBNe, ↓reduceIte, reduceIte, spRc, nxtS] at h; obtain ⟨rfl, rfl, rfl, rfl⟩ := h; refine ⟨?_, ?_⟩)
    | ((with_reducible refine Ob.mk ?_); first | exact trivial | (intros; omega) | ((repeat' first | apply And.intro | (intro hg; have hg' := hg; try simp only [zH] at hg')) <;> first | assumption | omega | (simp only [zH]; omega)))
  refine Zay rfl rfl (Zcw ⟨1, .own 0, [(0, some (.mp es clk))]⟩ [(0, 2)] ⟨L, es, clk, ⟨hR, hM⟩, rfl⟩ rfl (Zbp rfl) ?_)
  simp only [grR, zE0, zE1, zE2, zE3, zE4, zE5, evp, evx, ev1, evLoad, evStore, evBin, isBoolK, forall_const, z38, tb, Nat.reduceAdd, Nat.reduceSub, Nat.reduceMul, Nat.reduceEqDiff, Nat.reduceLeDiff, Nat.reduceLT, Nat.reduceBEq, Nat.reduceBNe, ↓reduceIte, reduceIte, spRc, nxtS]
set_option maxRecDepth 4000 in
set_option maxHeartbeats 4000000 in
theorem reached0_fg {o p c : List Int} {x : List (List Int)} {pl : Int} {fr fT : Nat}  {th : Nat → Bool} (hn : o.length ≤ 20000) (hfr : fr < o.length) (hxl : x.length = o.length) (hcl : ∀ v, v < o.length → o.getD v 0 = pl → v < c.length)
    (hrow : ∀ v, v < o.length → (nxF ⟨o, p, x⟩ c pl v).length ≤ 64 ∧ ∀ j, j < (nxF ⟨o, p, x⟩ c pl v).length → 0 ≤ (nxF ⟨o, p, x⟩ c pl v).getD j 0 ∧ (nxF ⟨o, p, x⟩ c pl v).getD j 0 < (o.length : Int))
    (hT : ∀ w : Nat, w < o.length → FG Try.prog fT [.int .i64 w] [] 0 (fun g => g = ⟨0, .bool (th w), []⟩)) :
    FG Try.prog 37 [.agg (.cons (.roI o) (.cons (.roI p) (.cons (.roII x) (.cons (.int .i64 pl) (.cons (.roI c) .nil))))), .int .i64 fr, .fn fT .nil] [] 0 fun g => ∃ (L : List (Nat × Nat)) (es : List (Int × Int × Nat)) (clk : Nat), (RE (nxN o x pl c) (fun w => th w = true) o.length fr L ∧ MQ es L) ∧ g = ⟨1, .own 0, [(0, some (.mp es clk))]⟩ := by
  refine Zd1 htb (fn := Try.f37) (by kernel_rfl) (by kernel_rfl) rfl (Nat.le_of_ble_eq_true rfl) fun hl => ?_
  simp only [lenP, mkL, lim] at hl
  repeat' first
    | with_reducible first | refine Zas ?_ | refine Zao ?_ | refine Zac ?_ | refine Zad ?_ | refine Zai ?_ | refine Zaq ?_ | refine Zah ?_ | refine Zak ?_ | refine Zar ?_ | refine Zat ?_ | refine Zap ?_ | refine Zam ?_ | refine Zaa ?_ | refine Zae ?_ | refine Zab ?_ | refine Zal ?_
    | ((with_reducible refine Zaj ?_ ?_); exact rfl)
    | ((with_reducible refine Zau ?_); refine Zan rfl ?_ ?_ <;> intro hb <;> (try simp only [zH] at hb))
    | ((with_reducible refine Zav 2 ?_ ?_); (· exact rfl); (first | refine Zaf htb hmz Za2 (fun _ => false) rfl rfl ?_ | refine Zag hmo htb hmz Za2 (fun _ => false) rfl rfl (by kernel_rfl) ?_); intro m' e' l' ob h; simp only [zE0, zE1, zE2, zE3, zE4, zE5, evp, evx, ev1, evLoad, evStore, evBin, isBoolK, forall_const, z38, tb, Nat.reduceAdd, Nat.reduceSub, Nat.reduceMul, Nat.reduceEqDiff, Nat.reduceLeDiff, Nat.reduceLT, Nat.reduceBEq, Nat.reduceBNe, ↓reduceIte, reduceIte, spRc, nxtS] at h; obtain ⟨rfl, rfl, rfl, rfl⟩ := h; refine ⟨?_, ?_⟩)
    | ((with_reducible refine Ob.mk ?_); first | exact trivial | (intros; omega) | ((repeat' first | apply And.intro | (intro hg; have hg' := hg; try simp only [zH] at hg')) <;> first | assumption | omega | (simp only [zH]; omega)))
  (refine Zaf htb hmz Za2 (fun i => Nat.beq i 1) rfl rfl ?_; intro m' e' l' ob h; simp only [zE0, zE1, zE2, zE3, zE4, zE5, evp, evx, ev1, evLoad, evStore, evBin, isBoolK, forall_const, z38, tb, Nat.reduceAdd, Nat.reduceSub, Nat.reduceMul, Nat.reduceEqDiff, Nat.reduceLeDiff, Nat.reduceLT, Nat.reduceBEq, Nat.reduceBNe, ↓reduceIte, reduceIte, spRc, nxtS] at h; obtain ⟨rfl, rfl, rfl, rfl⟩ := h; refine ⟨?_, ?_⟩)
  · first | ((with_reducible refine Ob.mk ?_); first | exact trivial | (intros; omega) | ((repeat' first | apply And.intro | (intro hg; have hg' := hg; try simp only [zH] at hg')) <;> first | assumption | omega | (simp only [zH]; omega))) | skip
  refine Zac ?_
  repeat' first
    | with_reducible first | refine Zas ?_ | refine Zao ?_ | refine Zac ?_ | refine Zad ?_ | refine Zai ?_ | refine Zaq ?_ | refine Zah ?_ | refine Zak ?_ | refine Zar ?_ | refine Zat ?_ | refine Zap ?_ | refine Zam ?_ | refine Zaa ?_ | refine Zae ?_ | refine Zab ?_ | refine Zal ?_
    | ((with_reducible refine Zaj ?_ ?_); exact rfl)
    | ((with_reducible refine Zau ?_); refine Zan rfl ?_ ?_ <;> intro hb <;> (try simp only [zH] at hb))
    | ((with_reducible refine Zav 3 ?_ ?_); (· exact rfl); (first | refine Zaf htb hmz Za2 (fun _ => false) rfl rfl ?_ | refine Zag hmo htb hmz Za2 (fun _ => false) rfl rfl (by kernel_rfl) ?_); intro m' e' l' ob h; simp only [zE0, zE1, zE2, zE3, zE4, zE5, evp, evx, ev1, evLoad, evStore, evBin, isBoolK, forall_const, z38, tb, Nat.reduceAdd, Nat.reduceSub, Nat.reduceMul, Nat.reduceEqDiff, Nat.reduceLeDiff, Nat.reduceLT, Nat.reduceBEq, Nat.reduceBNe, ↓reduceIte, reduceIte, spRc, nxtS] at h; obtain ⟨rfl, rfl, rfl, rfl⟩ := h; refine ⟨?_, ?_⟩)
    | ((with_reducible refine Ob.mk ?_); first | exact trivial | (intros; omega) | ((repeat' first | apply And.intro | (intro hg; have hg' := hg; try simp only [zH] at hg')) <;> first | assumption | omega | (simp only [zH]; omega)))
  refine Za1 (τ := RcS) (fun s => RQ (nxN o x pl c) (fun w => th w = true) o.length fr s.L s.i 0 ∧ MQ s.es s.L) (fun s => ⟨7, [(8, .own 5), (7, .own 2), (2, .fn fT .nil), (3, .rop (.agg (.cons (.roI o) (.cons (.roI p) (.cons (.roII x) (.cons (.int .i64 pl) (.cons (.roI c) .nil)))))))], [(5, some (.ints (castL ((qF fr s.L).drop s.i)))), (2, some (.mp s.es s.clk))], []⟩) (fun s => o.length + 1 - s.i) ⟨[], 0, [], 0⟩ [] ?_ ⟨RQ_first hfr, MQ_nil⟩ ?_
  · (refine ⟨rfl, ?_, ?_⟩ <;> simp only [zE0, zE1, zE2, zE3, zE4, zE5, evp, evx, ev1, evLoad, evStore, evBin, isBoolK, forall_const, z38, tb, Nat.reduceAdd, Nat.reduceSub, Nat.reduceMul, Nat.reduceEqDiff, Nat.reduceLeDiff, Nat.reduceLT, Nat.reduceBEq, Nat.reduceBNe, ↓reduceIte, reduceIte, spRc, nxtS, zI])
    rfl
  rintro ⟨L, i, es, clk⟩ ⟨hR, hM⟩
  dsimp only at hR hM ⊢
  have hLn := Zfs hR
  have hql := Zeg (fr := fr) (L := L)
  have hcl2 : (castL ((qF fr L).drop i)).length = L.length + 1 - i := by unfold castL; rw [List.length_map, List.length_drop, hql]
  repeat' first
    | with_reducible first | refine Zas ?_ | refine Zao ?_ | refine Zac ?_ | refine Zad ?_ | refine Zai ?_ | refine Zaq ?_ | refine Zah ?_ | refine Zak ?_ | refine Zar ?_ | refine Zat ?_ | refine Zap ?_ | refine Zam ?_ | refine Zaa ?_ | refine Zae ?_ | refine Zab ?_ | refine Zal ?_
    | ((with_reducible refine Zaj ?_ ?_); exact rfl)
    | ((with_reducible refine Zau ?_); refine Zan rfl ?_ ?_ <;> intro hb <;> (try simp only [zH] at hb))
    | ((with_reducible refine Zav 4 ?_ ?_); (· exact rfl); (with_reducible refine Zav 14 ?_ ?_); (· exact rfl); (first | refine Zaf htb hmz Za2 (fun _ => false) rfl rfl ?_ | refine Zag hmo htb hmz Za2 (fun _ => false) rfl rfl (by kernel_rfl) ?_); intro m' e' l' ob h; simp only [zE0, zE1, zE2, zE3, zE4, zE5, evp, evx, ev1, evLoad, evStore, evBin, isBoolK, forall_const, z38, tb, Nat.reduceAdd, Nat.reduceSub, Nat.reduceMul, Nat.reduceEqDiff, Nat.reduceLeDiff, Nat.reduceLT, Nat.reduceBEq, Nat.reduceBNe, ↓reduceIte, reduceIte, spRc, nxtS] at h; obtain ⟨rfl, rfl, rfl, rfl⟩ := h; refine ⟨?_, ?_⟩)
    | ((with_reducible refine Ob.mk ?_); first | exact trivial | (intros; omega) | ((repeat' first | apply And.intro | (intro hg; have hg' := hg; try simp only [zH] at hg')) <;> first | assumption | omega | (simp only [zH]; omega)))
  · have hi : i < (qF fr L).length := by omega
    obtain ⟨u, hu⟩ : ∃ u, (qF fr L)[i]? = some u := ⟨_, List.getElem?_eq_getElem hi⟩
    have hun : u < o.length := hR.lt u (List.mem_of_getElem? hu)
    have hg : (castL ((qF fr L).drop i)).getD 0 0 = (u : Int) := by
      unfold castL
      rw [List.getD_eq_getElem?_getD, List.getElem?_map, List.getElem?_drop, Nat.add_zero, hu]; rfl
    have hdr : List.drop 1 (castL ((qF fr L).drop i)) = castL ((qF fr L).drop (i + 1)) := by
      unfold castL
      rw [← List.map_drop, List.drop_drop]
    have hcu := hcl u hun
    obtain ⟨hr64, hrb⟩ := hrow u hun
    repeat' first
      | with_reducible first | refine Zas ?_ | refine Zao ?_ | refine Zac ?_ | refine Zad ?_ | refine Zai ?_ | refine Zaq ?_ | refine Zah ?_ | refine Zak ?_ | refine Zar ?_ | refine Zat ?_ | refine Zap ?_ | refine Zam ?_ | refine Zaa ?_ | refine Zae ?_ | refine Zab ?_ | refine Zal ?_
      | ((with_reducible refine Zaj ?_ ?_); exact rfl)
      | ((with_reducible refine Zau ?_); refine Zan rfl ?_ ?_ <;> intro hb <;> (try simp only [zH] at hb))
      | ((with_reducible refine Zav 6 ?_ ?_); (· exact rfl); (first | refine Zaf htb hmz Za2 (fun _ => false) rfl rfl ?_ | refine Zag hmo htb hmz Za2 (fun _ => false) rfl rfl (by kernel_rfl) ?_); intro m' e' l' ob h; simp only [zE0, zE1, zE2, zE3, zE4, zE5, evp, evx, ev1, evLoad, evStore, evBin, isBoolK, forall_const, z38, tb, Nat.reduceAdd, Nat.reduceSub, Nat.reduceMul, Nat.reduceEqDiff, Nat.reduceLeDiff, Nat.reduceLT, Nat.reduceBEq, Nat.reduceBNe, ↓reduceIte, reduceIte, spRc, nxtS] at h; obtain ⟨rfl, rfl, rfl, rfl⟩ := h; refine ⟨?_, ?_⟩)
      | ((with_reducible refine Ob.mk ?_); first | exact trivial | (intros; omega) | ((repeat' first | apply And.intro | (intro hg; have hg' := hg; try simp only [zH] at hg')) <;> first | assumption | omega | (simp only [zH]; omega)))
    rw [hg, hdr]
    repeat' first
      | with_reducible first | refine Zas ?_ | refine Zao ?_ | refine Zac ?_ | refine Zad ?_ | refine Zai ?_ | refine Zaq ?_ | refine Zah ?_ | refine Zak ?_ | refine Zar ?_ | refine Zat ?_ | refine Zap ?_ | refine Zam ?_ | refine Zaa ?_ | refine Zae ?_ | refine Zab ?_ | refine Zal ?_
      | ((with_reducible refine Zaj ?_ ?_); exact rfl)
      | ((with_reducible refine Zau ?_); refine Zan rfl ?_ ?_ <;> intro hb <;> (try simp only [zH] at hb))
      | ((with_reducible refine Zav 7 ?_ ?_); (· exact rfl); (first | refine Zaf htb hmz Za2 (fun _ => false) rfl rfl ?_ | refine Zag hmo htb hmz Za2 (fun _ => false) rfl rfl (by kernel_rfl) ?_); intro m' e' l' ob h; simp only [zE0, zE1, zE2, zE3, zE4, zE5, evp, evx, ev1, evLoad, evStore, evBin, isBoolK, forall_const, z38, tb, Nat.reduceAdd, Nat.reduceSub, Nat.reduceMul, Nat.reduceEqDiff, Nat.reduceLeDiff, Nat.reduceLT, Nat.reduceBEq, Nat.reduceBNe, ↓reduceIte, reduceIte, spRc, nxtS] at h; obtain ⟨rfl, rfl, rfl, rfl⟩ := h; refine ⟨?_, ?_⟩)
      | ((with_reducible refine Ob.mk ?_); first | exact trivial | (intros; omega) | ((repeat' first | apply And.intro | (intro hg; have hg' := hg; try simp only [zH] at hg')) <;> first | assumption | omega | (simp only [zH]; omega)))
    have hnx : nxN o x pl c u = (nxF ⟨o, p, x⟩ c pl u).map Int.toNat := rfl
    have hat : ∀ j, j < (nxF ⟨o, p, x⟩ c pl u).length → (nxN o x pl c u)[j]? = some ((nxF ⟨o, p, x⟩ c pl u).getD j 0).toNat := fun j hj => by
      rw [hnx, List.getElem?_map, List.getD_eq_getElem?_getD, List.getElem?_eq_getElem hj]; rfl
    have hxl2 : (nxN o x pl c u).length = (nxF ⟨o, p, x⟩ c pl u).length := by rw [hnx, List.length_map]
    clear hnx
    generalize nxF ⟨o, p, x⟩ c pl u = rw at *
    refine Za1 (τ := RdS) (fun s => RQ (nxN o x pl c) (fun w => th w = true) o.length fr s.L i s.j ∧ MQ s.es s.L ∧ (∃ L', s.L = L ++ L') ∧ s.j ≤ rw.length) (fun s => ⟨22, [(29, .int .i64 s.j), (28, .int .i64 rw.length), (27, .roI rw), (8, .own 15), (9, .int .i64 u), (7, .own 2), (2, .fn fT .nil), (3, .rop (.agg (.cons (.roI o) (.cons (.roI p) (.cons (.roII x) (.cons (.int .i64 pl) (.cons (.roI c) .nil)))))))], [(15, some (.ints (castL ((qF fr s.L).drop (i + 1))))), (2, some (.mp s.es s.clk))], []⟩) (fun s => rw.length - s.j) ⟨L, 0, es, clk⟩ [] ?_ ⟨hR, hM, ⟨[], by simp⟩, Nat.zero_le _⟩ ?_
    · (refine ⟨rfl, ?_, ?_⟩ <;> simp only [zE0, zE1, zE2, zE3, zE4, zE5, evp, evx, ev1, evLoad, evStore, evBin, isBoolK, forall_const, z38, tb, Nat.reduceAdd, Nat.reduceSub, Nat.reduceMul, Nat.reduceEqDiff, Nat.reduceLeDiff, Nat.reduceLT, Nat.reduceBEq, Nat.reduceBNe, ↓reduceIte, reduceIte, spRc, nxtS, zI])
    rintro ⟨L2, j, es2, clk2⟩ ⟨hR2, hM2, ⟨L', hLL⟩, hj⟩
    dsimp only at hR2 hM2 hLL hj ⊢
    subst hLL
    have hLn2 := Zfs hR2
    have hu2 : (qF fr (L ++ L'))[i]? = some u := by
      have : qF fr (L ++ L') = qF fr L ++ L'.map Prod.fst := by simp [qF]
      rw [this, List.getElem?_append_left hi, hu]
    have hlen2 : (castL ((qF fr (L ++ L')).drop (i + 1))).length ≤ 20001 := by
      unfold castL
      rw [List.length_map, List.length_drop, Zeg]; omega
    repeat' first
      | with_reducible first | refine Zas ?_ | refine Zao ?_ | refine Zac ?_ | refine Zad ?_ | refine Zai ?_ | refine Zaq ?_ | refine Zah ?_ | refine Zak ?_ | refine Zar ?_ | refine Zat ?_ | refine Zap ?_ | refine Zam ?_ | refine Zaa ?_ | refine Zae ?_ | refine Zab ?_ | refine Zal ?_
      | ((with_reducible refine Zaj ?_ ?_); exact rfl)
      | ((with_reducible refine Zau ?_); refine Zan rfl ?_ ?_ <;> intro hb <;> (try simp only [zH] at hb))
      | ((with_reducible refine Zav 8 ?_ ?_); (· exact rfl); (with_reducible refine Zav 14 ?_ ?_); (· exact rfl); (first | refine Zaf htb hmz Za2 (fun _ => false) rfl rfl ?_ | refine Zag hmo htb hmz Za2 (fun _ => false) rfl rfl (by kernel_rfl) ?_); intro m' e' l' ob h; simp only [zE0, zE1, zE2, zE3, zE4, zE5, evp, evx, ev1, evLoad, evStore, evBin, isBoolK, forall_const, z38, tb, Nat.reduceAdd, Nat.reduceSub, Nat.reduceMul, Nat.reduceEqDiff, Nat.reduceLeDiff, Nat.reduceLT, Nat.reduceBEq, Nat.reduceBNe, ↓reduceIte, reduceIte, spRc, nxtS] at h; obtain ⟨rfl, rfl, rfl, rfl⟩ := h; refine ⟨?_, ?_⟩)
      | ((with_reducible refine Ob.mk ?_); first | exact trivial | (intros; omega) | ((repeat' first | apply And.intro | (intro hg; have hg' := hg; try simp only [zH] at hg')) <;> first | assumption | omega | (simp only [zH]; omega)))
    · have hjl : j < rw.length := by omega
      obtain ⟨b1, b2⟩ := hrb j hjl
      obtain ⟨w, hw⟩ := Int.eq_ofNat_of_zero_le b1
      have hjw := hat j hjl
      rw [hw] at hjw b2
      rw [Int.toNat_natCast] at hjw
      have hwn : w < o.length := by omega
      have hT1 := hT w hwn
      have hhas := hM2.has w
      repeat' first
        | with_reducible first | refine Zas ?_ | refine Zao ?_ | refine Zac ?_ | refine Zad ?_ | refine Zai ?_ | refine Zaq ?_ | refine Zah ?_ | refine Zak ?_ | refine Zar ?_ | refine Zat ?_ | refine Zap ?_ | refine Zam ?_ | refine Zaa ?_ | refine Zae ?_ | refine Zab ?_ | refine Zal ?_
        | ((with_reducible refine Zaj ?_ ?_); exact rfl)
        | ((with_reducible refine Zau ?_); refine Zan rfl ?_ ?_ <;> intro hb <;> (try simp only [zH] at hb))
        | ((with_reducible refine Zav 9 ?_ ?_); (· exact rfl); (first | refine Zaf htb hmz Za2 (fun _ => false) rfl rfl ?_ | refine Zag hmo htb hmz Za2 (fun _ => false) rfl rfl (by kernel_rfl) ?_); intro m' e' l' ob h; simp only [zE0, zE1, zE2, zE3, zE4, zE5, evp, evx, ev1, evLoad, evStore, evBin, isBoolK, forall_const, z38, tb, Nat.reduceAdd, Nat.reduceSub, Nat.reduceMul, Nat.reduceEqDiff, Nat.reduceLeDiff, Nat.reduceLT, Nat.reduceBEq, Nat.reduceBNe, ↓reduceIte, reduceIte, spRc, nxtS] at h; obtain ⟨rfl, rfl, rfl, rfl⟩ := h; refine ⟨?_, ?_⟩)
        | ((with_reducible refine Ob.mk ?_); first | exact trivial | (intros; omega) | ((repeat' first | apply And.intro | (intro hg; have hg' := hg; try simp only [zH] at hg')) <;> first | assumption | omega | (simp only [zH]; omega)))
      rw [hw]
      repeat' first
        | with_reducible first | refine Zas ?_ | refine Zao ?_ | refine Zac ?_ | refine Zad ?_ | refine Zai ?_ | refine Zaq ?_ | refine Zah ?_ | refine Zak ?_ | refine Zar ?_ | refine Zat ?_ | refine Zap ?_ | refine Zam ?_ | refine Zaa ?_ | refine Zae ?_ | refine Zab ?_ | refine Zal ?_
        | ((with_reducible refine Zaj ?_ ?_); exact rfl)
        | ((with_reducible refine Zau ?_); refine Zan rfl ?_ ?_ <;> intro hb <;> (try simp only [zH] at hb))
        | ((with_reducible refine Zav 10 ?_ ?_); (· exact rfl); (first | refine Zaf htb hmz Za2 (fun _ => false) rfl rfl ?_ | refine Zag hmo htb hmz Za2 (fun _ => false) rfl rfl (by kernel_rfl) ?_); intro m' e' l' ob h; simp only [zE0, zE1, zE2, zE3, zE4, zE5, evp, evx, ev1, evLoad, evStore, evBin, isBoolK, forall_const, z38, tb, Nat.reduceAdd, Nat.reduceSub, Nat.reduceMul, Nat.reduceEqDiff, Nat.reduceLeDiff, Nat.reduceLT, Nat.reduceBEq, Nat.reduceBNe, ↓reduceIte, reduceIte, spRc, nxtS] at h; obtain ⟨rfl, rfl, rfl, rfl⟩ := h; refine ⟨?_, ?_⟩)
        | ((with_reducible refine Ob.mk ?_); first | exact trivial | (intros; omega) | ((repeat' first | apply And.intro | (intro hg; have hg' := hg; try simp only [zH] at hg')) <;> first | assumption | omega | (simp only [zH]; omega)))
      cases hh : mhas (w : Int) es2 with
      | true =>
        rw [hh] at hhas
        have hin : w ∈ (L ++ L').map Prod.fst := of_decide_eq_true hhas.symm
        have hR3 := Zgu hR2 hu2 hjw (.inl hin)
        refine Zdc ?_
        refine Zbi rfl ?_
        dsimp only [noGd]
        refine Zaz htb hmz Za2 (fun _ => false) rfl rfl rfl ?_; intro m' e' l' ob h; simp only [zE0, zE1, zE2, zE3, zE4, zE5, evp, evx, ev1, evLoad, evStore, evBin, isBoolK, forall_const, z38, tb, Nat.reduceAdd, Nat.reduceSub, Nat.reduceMul, Nat.reduceEqDiff, Nat.reduceLeDiff, Nat.reduceLT, Nat.reduceBEq, Nat.reduceBNe, ↓reduceIte, reduceIte, spRc, nxtS] at h; obtain ⟨rfl, rfl, rfl, rfl⟩ := h; refine ⟨?_, Zac ?_⟩
        · first | ((with_reducible refine Ob.mk ?_); first | exact trivial | (intros; omega) | ((repeat' first | apply And.intro | (intro hg; have hg' := hg; try simp only [zH] at hg')) <;> first | assumption | omega | (simp only [zH]; omega))) | skip
        refine Zbi rfl ?_
        dsimp only [noGd]
        refine Zaz htb hmz Za2 (fun _ => false) rfl rfl rfl ?_; intro m' e' l' ob h; simp only [zE0, zE1, zE2, zE3, zE4, zE5, evp, evx, ev1, evLoad, evStore, evBin, isBoolK, forall_const, z38, tb, Nat.reduceAdd, Nat.reduceSub, Nat.reduceMul, Nat.reduceEqDiff, Nat.reduceLeDiff, Nat.reduceLT, Nat.reduceBEq, Nat.reduceBNe, ↓reduceIte, reduceIte, spRc, nxtS] at h; obtain ⟨rfl, rfl, rfl, rfl⟩ := h; refine ⟨?_, Zac ?_⟩
        · first | ((with_reducible refine Ob.mk ?_); first | exact trivial | (intros; omega) | ((repeat' first | apply And.intro | (intro hg; have hg' := hg; try simp only [zH] at hg')) <;> first | assumption | omega | (simp only [zH]; omega))) | skip
        refine Zb5 rfl rfl rfl rfl rfl ?_
        refine Zb5 rfl rfl rfl rfl rfl ?_
        refine Zb5 rfl rfl rfl rfl rfl ?_
        refine Zb5 rfl rfl rfl rfl rfl ?_
        refine Zbi rfl ?_
        dsimp only [noGd, putE]
        refine Zaz htb hmz Za2 (fun _ => false) rfl rfl rfl ?_; intro m' e' l' ob h; simp only [zE0, zE1, zE2, zE3, zE4, zE5, evp, evx, ev1, evLoad, evStore, evBin, isBoolK, forall_const, z38, tb, Nat.reduceAdd, Nat.reduceSub, Nat.reduceMul, Nat.reduceEqDiff, Nat.reduceLeDiff, Nat.reduceLT, Nat.reduceBEq, Nat.reduceBNe, ↓reduceIte, reduceIte, spRc, nxtS] at h; obtain ⟨rfl, rfl, rfl, rfl⟩ := h; refine ⟨?_, Zac ?_⟩
        · first | ((with_reducible refine Ob.mk ?_); first | exact trivial | (intros; omega) | ((repeat' first | apply And.intro | (intro hg; have hg' := hg; try simp only [zH] at hg')) <;> first | assumption | omega | (simp only [zH]; omega))) | skip
        refine Zd0 ?_
        repeat' first
          | with_reducible first | refine Zas ?_ | refine Zao ?_ | refine Zac ?_ | refine Zad ?_ | refine Zai ?_ | refine Zaq ?_ | refine Zah ?_ | refine Zak ?_ | refine Zar ?_ | refine Zat ?_ | refine Zap ?_ | refine Zam ?_ | refine Zaa ?_ | refine Zae ?_ | refine Zab ?_ | refine Zal ?_
          | ((with_reducible refine Zaj ?_ ?_); exact rfl)
          | ((with_reducible refine Zau ?_); refine Zan rfl ?_ ?_ <;> intro hb <;> (try simp only [zH] at hb))
          | ((with_reducible refine Zav 11 ?_ ?_); (· exact rfl); (first | refine Zaf htb hmz Za2 (fun _ => false) rfl rfl ?_ | refine Zag hmo htb hmz Za2 (fun _ => false) rfl rfl (by kernel_rfl) ?_); intro m' e' l' ob h; simp only [zE0, zE1, zE2, zE3, zE4, zE5, evp, evx, ev1, evLoad, evStore, evBin, isBoolK, forall_const, z38, tb, Nat.reduceAdd, Nat.reduceSub, Nat.reduceMul, Nat.reduceEqDiff, Nat.reduceLeDiff, Nat.reduceLT, Nat.reduceBEq, Nat.reduceBNe, ↓reduceIte, reduceIte, spRc, nxtS] at h; obtain ⟨rfl, rfl, rfl, rfl⟩ := h; refine ⟨?_, ?_⟩)
          | ((with_reducible refine Ob.mk ?_); first | exact trivial | (intros; omega) | ((repeat' first | apply And.intro | (intro hg; have hg' := hg; try simp only [zH] at hg')) <;> first | assumption | omega | (simp only [zH]; omega)))
        · refine back ⟨L ++ L', j + 1, es2, clk2⟩ [] ?_ ⟨hR3, hM2, ⟨L', rfl⟩, by dsimp only; omega⟩ (by dsimp only; omega)
          (refine ⟨rfl, ?_, ?_⟩ <;> simp only [zE0, zE1, zE2, zE3, zE4, zE5, evp, evx, ev1, evLoad, evStore, evBin, isBoolK, forall_const, z38, tb, Nat.reduceAdd, Nat.reduceSub, Nat.reduceMul, Nat.reduceEqDiff, Nat.reduceLeDiff, Nat.reduceLT, Nat.reduceBEq, Nat.reduceBNe, ↓reduceIte, reduceIte, spRc, nxtS, zI])
        · cases hb
      | false =>
        rw [hh] at hhas
        have hni : w ∉ (L ++ L').map Prod.fst := of_decide_eq_false hhas.symm
        refine Zdc ?_
        refine Zbi rfl ?_
        dsimp only [noGd]
        refine Zaz htb hmz Za2 (fun _ => false) rfl rfl rfl ?_; intro m' e' l' ob h; simp only [zE0, zE1, zE2, zE3, zE4, zE5, evp, evx, ev1, evLoad, evStore, evBin, isBoolK, forall_const, z38, tb, Nat.reduceAdd, Nat.reduceSub, Nat.reduceMul, Nat.reduceEqDiff, Nat.reduceLeDiff, Nat.reduceLT, Nat.reduceBEq, Nat.reduceBNe, ↓reduceIte, reduceIte, spRc, nxtS] at h; obtain ⟨rfl, rfl, rfl, rfl⟩ := h; refine ⟨?_, Zac ?_⟩
        · first | ((with_reducible refine Ob.mk ?_); first | exact trivial | (intros; omega) | ((repeat' first | apply And.intro | (intro hg; have hg' := hg; try simp only [zH] at hg')) <;> first | assumption | omega | (simp only [zH]; omega))) | skip
        refine Zbi rfl ?_
        dsimp only [noGd]
        refine Zaz htb hmz Za2 (fun _ => false) rfl rfl rfl ?_; intro m' e' l' ob h; simp only [zE0, zE1, zE2, zE3, zE4, zE5, evp, evx, ev1, evLoad, evStore, evBin, isBoolK, forall_const, z38, tb, Nat.reduceAdd, Nat.reduceSub, Nat.reduceMul, Nat.reduceEqDiff, Nat.reduceLeDiff, Nat.reduceLT, Nat.reduceBEq, Nat.reduceBNe, ↓reduceIte, reduceIte, spRc, nxtS] at h; obtain ⟨rfl, rfl, rfl, rfl⟩ := h; refine ⟨?_, Zac ?_⟩
        · first | ((with_reducible refine Ob.mk ?_); first | exact trivial | (intros; omega) | ((repeat' first | apply And.intro | (intro hg; have hg' := hg; try simp only [zH] at hg')) <;> first | assumption | omega | (simp only [zH]; omega))) | skip
        refine Zbs rfl rfl rfl rfl ?_
        dsimp only [noGd]
        refine Zaz htb hmz Za2 (fun _ => false) rfl rfl rfl ?_; intro m' e' l' ob h; simp only [zE0, zE1, zE2, zE3, zE4, zE5, evp, evx, ev1, evLoad, evStore, evBin, isBoolK, forall_const, z38, tb, Nat.reduceAdd, Nat.reduceSub, Nat.reduceMul, Nat.reduceEqDiff, Nat.reduceLeDiff, Nat.reduceLT, Nat.reduceBEq, Nat.reduceBNe, ↓reduceIte, reduceIte, spRc, nxtS] at h; obtain ⟨rfl, rfl, rfl, rfl⟩ := h; refine ⟨?_, Zac ?_⟩
        · first | ((with_reducible refine Ob.mk ?_); first | exact trivial | (intros; omega) | ((repeat' first | apply And.intro | (intro hg; have hg' := hg; try simp only [zH] at hg')) <;> first | assumption | omega | (simp only [zH]; omega))) | skip
        refine Zbs rfl rfl rfl rfl ?_
        dsimp only [noGd]
        refine Zaz htb hmz Za2 (fun _ => false) rfl rfl rfl ?_; intro m' e' l' ob h; simp only [zE0, zE1, zE2, zE3, zE4, zE5, evp, evx, ev1, evLoad, evStore, evBin, isBoolK, forall_const, z38, tb, Nat.reduceAdd, Nat.reduceSub, Nat.reduceMul, Nat.reduceEqDiff, Nat.reduceLeDiff, Nat.reduceLT, Nat.reduceBEq, Nat.reduceBNe, ↓reduceIte, reduceIte, spRc, nxtS] at h; obtain ⟨rfl, rfl, rfl, rfl⟩ := h; refine ⟨?_, Zac ?_⟩
        · first | ((with_reducible refine Ob.mk ?_); first | exact trivial | (intros; omega) | ((repeat' first | apply And.intro | (intro hg; have hg' := hg; try simp only [zH] at hg')) <;> first | assumption | omega | (simp only [zH]; omega))) | skip
        refine Zbs rfl rfl rfl rfl ?_
        dsimp only [noGd]
        refine Zbh ([]) (hT1) rfl rfl rfl rfl rfl rfl rfl rfl rfl (by simp only [rinR, rhoC, zE0, zE1, zE2, zE3, zE4, zE5, evp, evx, ev1, evLoad, evStore, evBin, isBoolK, forall_const, z38, tb, Nat.reduceAdd, Nat.reduceSub, Nat.reduceMul, Nat.reduceEqDiff, Nat.reduceLeDiff, Nat.reduceLT, Nat.reduceBEq, Nat.reduceBNe, ↓reduceIte, reduceIte, spRc, nxtS]) ?_; intro gm gv gr hq m' e' l' h; simp only [GR.mk.injEq] at hq; obtain ⟨rfl, rfl, rfl⟩ := hq; simp only [rhoC, outR, renR, dels, zE0, zE1, zE2, zE3, zE4, zE5, evp, evx, ev1, evLoad, evStore, evBin, isBoolK, forall_const, z38, tb, Nat.reduceAdd, Nat.reduceSub, Nat.reduceMul, Nat.reduceEqDiff, Nat.reduceLeDiff, Nat.reduceLT, Nat.reduceBEq, Nat.reduceBNe, ↓reduceIte, reduceIte, spRc, nxtS] at h; obtain ⟨rfl, rfl, rfl⟩ := h; refine Zac ?_
        refine Zbs rfl rfl rfl rfl ?_
        dsimp only [noGd]
        refine Zaz htb hmz Za2 (fun _ => false) rfl rfl rfl ?_; intro m' e' l' ob h; simp only [zE0, zE1, zE2, zE3, zE4, zE5, evp, evx, ev1, evLoad, evStore, evBin, isBoolK, forall_const, z38, tb, Nat.reduceAdd, Nat.reduceSub, Nat.reduceMul, Nat.reduceEqDiff, Nat.reduceLeDiff, Nat.reduceLT, Nat.reduceBEq, Nat.reduceBNe, ↓reduceIte, reduceIte, spRc, nxtS] at h; obtain ⟨rfl, rfl, rfl, rfl⟩ := h; refine ⟨?_, Zac ?_⟩
        · first | ((with_reducible refine Ob.mk ?_); first | exact trivial | (intros; omega) | ((repeat' first | apply And.intro | (intro hg; have hg' := hg; try simp only [zH] at hg')) <;> first | assumption | omega | (simp only [zH]; omega))) | skip
        refine Zbi rfl ?_
        dsimp only [noGd, putE]
        refine Zaz htb hmz Za2 (fun _ => false) rfl rfl rfl ?_; intro m' e' l' ob h; simp only [zE0, zE1, zE2, zE3, zE4, zE5, evp, evx, ev1, evLoad, evStore, evBin, isBoolK, forall_const, z38, tb, Nat.reduceAdd, Nat.reduceSub, Nat.reduceMul, Nat.reduceEqDiff, Nat.reduceLeDiff, Nat.reduceLT, Nat.reduceBEq, Nat.reduceBNe, ↓reduceIte, reduceIte, spRc, nxtS] at h; obtain ⟨rfl, rfl, rfl, rfl⟩ := h; refine ⟨?_, Zac ?_⟩
        · first | ((with_reducible refine Ob.mk ?_); first | exact trivial | (intros; omega) | ((repeat' first | apply And.intro | (intro hg; have hg' := hg; try simp only [zH] at hg')) <;> first | assumption | omega | (simp only [zH]; omega))) | skip
        refine Zd0 ?_
        repeat' first
          | with_reducible first | refine Zas ?_ | refine Zao ?_ | refine Zac ?_ | refine Zad ?_ | refine Zai ?_ | refine Zaq ?_ | refine Zah ?_ | refine Zak ?_ | refine Zar ?_ | refine Zat ?_ | refine Zap ?_ | refine Zam ?_ | refine Zaa ?_ | refine Zae ?_ | refine Zab ?_ | refine Zal ?_
          | ((with_reducible refine Zaj ?_ ?_); exact rfl)
          | ((with_reducible refine Zau ?_); refine Zan rfl ?_ ?_ <;> intro hb <;> (try simp only [zH] at hb))
          | ((with_reducible refine Zav 11 ?_ ?_); (· exact rfl); (first | refine Zaf htb hmz Za2 (fun _ => false) rfl rfl ?_ | refine Zag hmo htb hmz Za2 (fun _ => false) rfl rfl (by kernel_rfl) ?_); intro m' e' l' ob h; simp only [zE0, zE1, zE2, zE3, zE4, zE5, evp, evx, ev1, evLoad, evStore, evBin, isBoolK, forall_const, z38, tb, Nat.reduceAdd, Nat.reduceSub, Nat.reduceMul, Nat.reduceEqDiff, Nat.reduceLeDiff, Nat.reduceLT, Nat.reduceBEq, Nat.reduceBNe, ↓reduceIte, reduceIte, spRc, nxtS] at h; obtain ⟨rfl, rfl, rfl, rfl⟩ := h; refine ⟨?_, ?_⟩)
          | ((with_reducible refine Ob.mk ?_); first | exact trivial | (intros; omega) | ((repeat' first | apply And.intro | (intro hg; have hg' := hg; try simp only [zH] at hg')) <;> first | assumption | omega | (simp only [zH]; omega)))
        · have hth : ¬ th w = true := by rw [hb]; decide
          have hR3 := Zgu hR2 hu2 hjw (.inr hth)
          refine back ⟨L ++ L', j + 1, es2, clk2⟩ [] ?_ ⟨hR3, hM2, ⟨L', rfl⟩, by dsimp only; omega⟩ (by dsimp only; omega)
          (refine ⟨rfl, ?_, ?_⟩ <;> simp only [zE0, zE1, zE2, zE3, zE4, zE5, evp, evx, ev1, evLoad, evStore, evBin, isBoolK, forall_const, z38, tb, Nat.reduceAdd, Nat.reduceSub, Nat.reduceMul, Nat.reduceEqDiff, Nat.reduceLeDiff, Nat.reduceLT, Nat.reduceBEq, Nat.reduceBNe, ↓reduceIte, reduceIte, spRc, nxtS, zI])
        · have hth : th w = true := hb
          have hR3 := RQ_add hR2 hu2 hjw hwn hni hth
          have hM3 := MQ_put (u := u) (c := clk2) hM2 hni
          have hq3 : castL ((qF fr (L ++ L')).drop (i + 1)) ++ [(w : Int)] = castL ((qF fr (L ++ L' ++ [(w, u)])).drop (i + 1)) := by
            rw [Zd7, List.drop_append_of_le_length (by simp [qF]; simp [qF] at hi; omega)]
            unfold castL
            rw [List.map_append]; rfl
          repeat' first
            | with_reducible first | refine Zas ?_ | refine Zao ?_ | refine Zac ?_ | refine Zad ?_ | refine Zai ?_ | refine Zaq ?_ | refine Zah ?_ | refine Zak ?_ | refine Zar ?_ | refine Zat ?_ | refine Zap ?_ | refine Zam ?_ | refine Zaa ?_ | refine Zae ?_ | refine Zab ?_ | refine Zal ?_
            | ((with_reducible refine Zaj ?_ ?_); exact rfl)
            | ((with_reducible refine Zau ?_); refine Zan rfl ?_ ?_ <;> intro hb <;> (try simp only [zH] at hb))
            | ((with_reducible refine Zav 12 ?_ ?_); (· exact rfl); (first | refine Zaf htb hmz Za2 (fun _ => false) rfl rfl ?_ | refine Zag hmo htb hmz Za2 (fun _ => false) rfl rfl (by kernel_rfl) ?_); intro m' e' l' ob h; simp only [zE0, zE1, zE2, zE3, zE4, zE5, evp, evx, ev1, evLoad, evStore, evBin, isBoolK, forall_const, z38, tb, Nat.reduceAdd, Nat.reduceSub, Nat.reduceMul, Nat.reduceEqDiff, Nat.reduceLeDiff, Nat.reduceLT, Nat.reduceBEq, Nat.reduceBNe, ↓reduceIte, reduceIte, spRc, nxtS] at h; obtain ⟨rfl, rfl, rfl, rfl⟩ := h; refine ⟨?_, ?_⟩)
            | ((with_reducible refine Ob.mk ?_); first | exact trivial | (intros; omega) | ((repeat' first | apply And.intro | (intro hg; have hg' := hg; try simp only [zH] at hg')) <;> first | assumption | omega | (simp only [zH]; omega)))
          repeat' first
            | with_reducible first | refine Zas ?_ | refine Zao ?_ | refine Zac ?_ | refine Zad ?_ | refine Zai ?_ | refine Zaq ?_ | refine Zah ?_ | refine Zak ?_ | refine Zar ?_ | refine Zat ?_ | refine Zap ?_ | refine Zam ?_ | refine Zaa ?_ | refine Zae ?_ | refine Zab ?_ | refine Zal ?_
            | ((with_reducible refine Zaj ?_ ?_); exact rfl)
            | ((with_reducible refine Zau ?_); refine Zan rfl ?_ ?_ <;> intro hb <;> (try simp only [zH] at hb))
            | ((with_reducible refine Za0 ?_); (first | refine Zaf htb hmz Za2 (fun _ => false) rfl rfl ?_ | refine Zag hmo htb hmz Za2 (fun _ => false) rfl rfl (by kernel_rfl) ?_); intro m' e' l' ob h; simp only [zE0, zE1, zE2, zE3, zE4, zE5, evp, evx, ev1, evLoad, evStore, evBin, isBoolK, forall_const, z38, tb, Nat.reduceAdd, Nat.reduceSub, Nat.reduceMul, Nat.reduceEqDiff, Nat.reduceLeDiff, Nat.reduceLT, Nat.reduceBEq, Nat.reduceBNe, ↓reduceIte, reduceIte, spRc, nxtS] at h; obtain ⟨rfl, rfl, rfl, rfl⟩ := h; refine ⟨?_, ?_⟩)
            | ((with_reducible refine Ob.mk ?_); first | exact trivial | (intros; omega) | ((repeat' first | apply And.intro | (intro hg; have hg' := hg; try simp only [zH] at hg')) <;> first | assumption | omega | (simp only [zH]; omega)))
          refine back ⟨L ++ L' ++ [(w, u)], j + 1, mput w u clk2 es2, mclk w clk2 es2⟩ [(15, 47)] ?_ ⟨hR3, hM3, ⟨L' ++ [(w, u)], by simp⟩, by dsimp only; omega⟩ (by dsimp only; omega)
          (refine ⟨rfl, ?_, ?_⟩ <;> simp only [zE0, zE1, zE2, zE3, zE4, zE5, evp, evx, ev1, evLoad, evStore, evBin, isBoolK, forall_const, z38, tb, Nat.reduceAdd, Nat.reduceSub, Nat.reduceMul, Nat.reduceEqDiff, Nat.reduceLeDiff, Nat.reduceLT, Nat.reduceBEq, Nat.reduceBNe, ↓reduceIte, reduceIte, spRc, nxtS, zI])
          exact hq3
    have hje : j = rw.length := by omega
    subst hje
    have hR4 := RQ_next hR2 hu2 (by rw [hxl2]; exact Nat.le_refl _)
    have hLn3 := Zfs hR4
    have hi3 := hR4.hi
    rw [Zeg] at hi3
    refine back ⟨L ++ L', i + 1, es2, clk2⟩ [(5, 15)] ?_ ⟨hR4, hM2⟩ (by dsimp only; omega)
    (refine ⟨rfl, ?_, ?_⟩ <;> simp only [zE0, zE1, zE2, zE3, zE4, zE5, evp, evx, ev1, evLoad, evStore, evBin, isBoolK, forall_const, z38, tb, Nat.reduceAdd, Nat.reduceSub, Nat.reduceMul, Nat.reduceEqDiff, Nat.reduceLeDiff, Nat.reduceLT, Nat.reduceBEq, Nat.reduceBNe, ↓reduceIte, reduceIte, spRc, nxtS, zI])
  have hie : i = (qF fr L).length := by have := hR.hi; omega
  subst hie
  repeat' first
    | with_reducible first | refine Zas ?_ | refine Zao ?_ | refine Zac ?_ | refine Zad ?_ | refine Zai ?_ | refine Zaq ?_ | refine Zah ?_ | refine Zak ?_ | refine Zar ?_ | refine Zat ?_ | refine Zap ?_ | refine Zam ?_ | refine Zaa ?_ | refine Zae ?_ | refine Zab ?_ | refine Zal ?_
    | ((with_reducible refine Zaj ?_ ?_); exact rfl)
    | ((with_reducible refine Zau ?_); refine Zan rfl ?_ ?_ <;> intro hb <;> (try simp only [zH] at hb))
    | ((with_reducible refine Za0 ?_); (first | refine Zaf htb hmz Za2 (fun _ => false) rfl rfl ?_ | refine Zag hmo htb hmz Za2 (fun _ => false) rfl rfl (by kernel_rfl) ?_); intro m' e' l' ob h; simp only [zE0, zE1, zE2, zE3, zE4, zE5, evp, evx, ev1, evLoad, evStore, evBin, isBoolK, forall_const, z38, tb, Nat.reduceAdd, Nat.reduceSub, Nat.reduceMul, Nat.reduceEqDiff, Nat.reduceLeDiff, Nat.reduceLT, Nat.reduceBEq, Nat.reduceBNe, ↓reduceIte, reduceIte, spRc, nxtS] at h; obtain ⟨rfl, rfl, rfl, rfl⟩ := h; refine ⟨?_, ?_⟩)
    | ((with_reducible refine Ob.mk ?_); first | exact trivial | (intros; omega) | ((repeat' first | apply And.intro | (intro hg; have hg' := hg; try simp only [zH] at hg')) <;> first | assumption | omega | (simp only [zH]; omega)))
  refine Zay rfl rfl (Zcw ⟨1, .own 0, [(0, some (.mp es clk))]⟩ [(0, 2)] ⟨L, es, clk, ⟨hR, hM⟩, rfl⟩ rfl (Zbp rfl) ?_)
  simp only [grR, zE0, zE1, zE2, zE3, zE4, zE5, evp, evx, ev1, evLoad, evStore, evBin, isBoolK, forall_const, z38, tb, Nat.reduceAdd, Nat.reduceSub, Nat.reduceMul, Nat.reduceEqDiff, Nat.reduceLeDiff, Nat.reduceLT, Nat.reduceBEq, Nat.reduceBNe, ↓reduceIte, reduceIte, spRc, nxtS]
end Go.Proofs.Ytbcghiagomkadaa.Cal
