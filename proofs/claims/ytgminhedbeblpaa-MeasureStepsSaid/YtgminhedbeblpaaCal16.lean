/- The table of all operations is right. -/
import Derived.Test.YtgminhedbeblpaaCal15
set_option linter.unusedVariables false
set_option linter.unusedSimpArgs false
namespace Go.Proofs.Ytgminhedbeblpaa.Cal
open Go

def RdIn (l : List (Nat × Option Blk)) (rd : List (Nat × Blk)) : Prop := ∀ p, p ∈ rd → lkr l p.1 = some p.2
theorem rdin_nil {l : List (Nat × Option Blk)} : RdIn l [] := fun p h => by cases h
theorem rdin_one {l : List (Nat × Option Blk)} {k : Nat} {b : Blk} (h : lkr l k = some b) : RdIn l [(k, b)] := fun p hp => by
  simp at hp; subst hp; exact h
theorem rdin_cons {l : List (Nat × Option Blk)} {k : Nat} {b : Blk} {rd : List (Nat × Blk)} (h : lkr l k = some b) (h2 : RdIn l rd) : RdIn l ((k, b) :: rd) := fun p hp => by
  rcases List.mem_cons.1 hp with rfl | hp
  · exact h
  · exact h2 p hp

theorem evLoad_rd {i : TI} {l : List (Nat × Option Blk)} {u v : AV} {rd : List (Nat × Blk)} {ob : Prop} (h : evLoad i l u = some (v, rd, ob)) : RdIn l rd := by
  unfold evLoad at h
  (repeat' split at h) <;> first
    | (cases h; done)
    | (simp only [Option.some.injEq, Prod.mk.injEq] at h; obtain ⟨_, rfl, _⟩ := h; first | exact rdin_nil | exact rdin_one (by assumption))
theorem evField_rd {fs : List (Nat × Nat × Bool)} {f : Nat} {l : List (Nat × Option Blk)} {u v : AV} {rd : List (Nat × Blk)} {ob : Prop} (h : evField fs f l u = some (v, rd, ob)) : RdIn l rd := by
  unfold evField at h
  (repeat' split at h) <;> first
    | (cases h; done)
    | (simp only [Option.some.injEq, Prod.mk.injEq] at h; obtain ⟨_, rfl, _⟩ := h; first | exact rdin_nil | exact rdin_one (by assumption))
theorem evIndex_rd {sz : Nat} {l : List (Nat × Option Blk)} {u v : AV} {z : Int} {rd : List (Nat × Blk)} {ob : Prop} (h : evIndex sz l u z = some (v, rd, ob)) : RdIn l rd := by
  unfold evIndex at h
  (repeat' split at h) <;> first
    | (cases h; done)
    | (simp only [Option.some.injEq, Prod.mk.injEq] at h; obtain ⟨_, rfl, _⟩ := h; first | exact rdin_nil | exact rdin_one (by assumption))
theorem lenOf_rd {l : List (Nat × Option Blk)} {u v : AV} {rd : List (Nat × Blk)} {ob : Prop} (h : lenOf l u = some (v, rd, ob)) : RdIn l rd := by
  unfold lenOf at h
  (repeat' split at h) <;> first
    | (cases h; done)
    | (simp only [Option.some.injEq, Prod.mk.injEq] at h; obtain ⟨_, rfl, _⟩ := h; first | exact rdin_nil | exact rdin_one (by assumption))
theorem evBin_rd {op : BinOp} {u1 u2 v : AV} {l : List (Nat × Option Blk)} {rd : List (Nat × Blk)} {ob : Prop} (h : evBin op u1 u2 = some (v, rd, ob)) : RdIn l rd := by
  unfold evBin at h
  split at h <;> first
    | (cases h; done)
    | (simp only [Option.some.injEq, Prod.mk.injEq] at h; obtain ⟨_, rfl, _⟩ := h; exact rdin_nil)
theorem evSlice_rd {u v : AV} {lo : Int} {hi : Option Int} {l : List (Nat × Option Blk)} {rd : List (Nat × Blk)} {ob : Prop} (h : evSlice u lo hi = some (v, rd, ob)) : RdIn l rd := by
  unfold evSlice at h
  split at h <;> first
    | (cases h; done)
    | (simp only [Option.some.injEq, Prod.mk.injEq] at h; obtain ⟨_, rfl, _⟩ := h; exact rdin_nil)

theorem evp_rd {tb : Nat → Option TI} {get : Operand → AV} {l : List (Nat × Option Blk)} {op : Op} {v : AV} {rd : List (Nat × Blk)} {ob : Prop} (h : evp tb get l op = some (v, rd, ob)) : RdIn l rd := by
  unfold evp at h
  (repeat' split at h) <;> first
    | (cases h; done)
    | exact evLoad_rd h
    | exact evField_rd h
    | exact evIndex_rd h
    | exact lenOf_rd h
    | exact evBin_rd h
    | exact evSlice_rd h
    | (simp only [Option.some.injEq, Prod.mk.injEq] at h; obtain ⟨_, rfl, _⟩ := h; first | exact rdin_nil | exact rdin_one (by assumption))

section
variable {P : Program} {get : Operand → AV} {l : List (Nat × Option Blk)} {tb : Nat → Option TI}

theorem evp_sem (htb : TabOK P tb) (hmz : ∀ t i, tb t = some i → men noK i.zero = true) (o : Oper) {v : AV} {rd : List (Nat × Blk)} {ob : Prop} (h : evp tb get l o.op = some (v, rd, ob)) (hob : ob) : OpSem P o get v rd [] none :=
  opsem_pure fun K Z ν w ev μ rs h1 hg hx hrd => evp_ok htb hmz o h1 hg hx h hob hrd

/-- What is asked of an answer of the table. -/
structure EvOK (P : Program) (o : Oper) (get : Operand → AV) (l : List (Nat × Option Blk)) (kn : Nat) (r : EvR) : Prop where
  sem : OpSem P o get r.val r.rd r.wr r.kn
  rd : RdIn l r.rd
  kn : r.kn = none ∨ r.kn = some kn

theorem ofP_ok {o : Oper} {e : Evp} {r : EvR} {kn : Nat} (h : ofP e = some r) (hob : r.ob) (hs : ∀ v rd ob, e = some (v, rd, ob) → ob → OpSem P o get v rd [] none) (hrd : ∀ v rd ob, e = some (v, rd, ob) → RdIn l rd) : EvOK P o get l kn r := by
  unfold ofP at h
  split at h
  · simp only [Option.some.injEq] at h
    subst h
    exact ⟨hs _ _ _ rfl hob, hrd _ _ _ rfl, .inl rfl⟩
  · cases h

theorem stBox_ok {o : Oper} {t k off kn : Nat} {i : TI} {a x : Operand} {u : AV} {r : EvR} (ho : o.op = .store t a x) (ht : TOK P t i) (ha : (get a = .own k ∧ off = 0) ∨ get a = .adr k 0 0 off) (hk : lkr l k = some (.box u)) (h : stBox i k u off (get x) = some r) : EvOK P o get l kn r := by
  unfold stBox at h
  split at h
  · rename_i hc
    simp only [Option.some.injEq] at h
    subst h
    simp only [Bool.and_eq_true, Nat.ble_eq] at hc
    obtain ⟨⟨⟨⟨⟨⟨⟨c1, c2⟩, c3⟩, c4⟩, c5⟩, c6⟩, c7⟩, c8⟩ := hc
    refine ⟨opsem_store_box ho ht ha c1 c2 (Nat.eq_of_beq_eq_true c3) (by omega) c5 c6 c7 (fun hu => ?_), rdin_one hk, .inl rfl⟩
    rw [hu] at c8
    simpa using c8
  · cases h

theorem evStore_ok {o : Oper} {t kn : Nat} {i : TI} {a x : Operand} {r : EvR} (ho : o.op = .store t a x) (ht : TOK P t i) (h : evStore i l (get a) (get x) = some r) (hob : r.ob) : EvOK P o get l kn r := by
  unfold evStore at h
  split at h
  · rename_i k ha
    split at h
    · rename_i u hk
      exact stBox_ok ho ht (.inl ⟨ha, rfl⟩) hk h
    · cases h
  · rename_i k sz ix off ha
    split at h
    · rename_i u hk
      split at h
      · exact stBox_ok ho ht (.inr ha) hk h
      · cases h
    · rename_i xs hk
      split at h
      · rename_i n hsz hx
        simp only [Option.some.injEq] at h
        subst h
        exact ⟨opsem_store_ints ho ht hsz ha hx hob, rdin_one hk, .inl rfl⟩
      · cases h
    · rename_i xs hk
      split at h
      · rename_i n hsz hx
        simp only [Option.some.injEq] at h
        subst h
        exact ⟨opsem_store_bools ho ht hsz ha hx hob, rdin_one hk, .inl rfl⟩
      · cases h
    · rename_i xs hk
      split at h
      · rename_i n hsz hx
        simp only [Option.some.injEq] at h
        subst h
        exact ⟨opsem_store_rowsR ho ht hsz ha hx hob, rdin_one hk, .inl rfl⟩
      · cases h
    · rename_i xs ih k1 hk
      split at h
      · rename_i k2 hsz hx
        split at h
        · rename_i zs hk2
          split at h
          · cases h
          · rename_i hne
            simp only [Option.some.injEq] at h
            subst h
            obtain ⟨rfl, hix⟩ := hob
            exact ⟨opsem_put ho ht hsz ha hx hix (by cases hb : Nat.beq k k2 with | false => rfl | true => exact absurd hb hne), rdin_cons hk (rdin_one hk2), .inl rfl⟩
        · cases h
      · cases h
    · rename_i s n f hk
      split at h
      · rename_i hc
        simp only [Option.some.injEq] at h
        subst h
        simp only [Bool.and_eq_true, Nat.ble_eq] at hc
        obtain ⟨⟨⟨⟨⟨c0, c1⟩, c2⟩, c3⟩, c4⟩, c5⟩ := hc
        have c0 := Nat.eq_of_beq_eq_true c0
        subst c0
        obtain ⟨o1, o2, o3, o4, o5⟩ := hob
        exact ⟨opsem_store_avs ho ht ha c1 c2 (Nat.eq_of_beq_eq_true c3) (by omega) o1 o2 o3 o4 c5 (fun hu => by rw [hu] at o5; simpa using o5), rdin_one hk, .inl rfl⟩
      · cases h
    · cases h
  · cases h

theorem isNil_eq {v : Value} (h : isNilS v = true) : v = .slice none 0 0 := by
  unfold isNilS at h
  split at h
  · rfl
  · cases h

theorem srcI_ok {u : AV} {ys : List Int} {rd rd' : List (Nat × Blk)} (h : srcI l u = some (ys, rd)) (hsub : ∀ p, p ∈ rd → p ∈ rd') : SrcOf rd' u 1 ys.length (fun _ _ _ => intAt ys) ∧ RdIn l rd := by
  unfold srcI at h
  split at h
  · simp only [Option.some.injEq, Prod.mk.injEq] at h; obtain ⟨rfl, rfl⟩ := h; exact ⟨src_roI, rdin_nil⟩
  · split at h
    · rename_i hk
      simp only [Option.some.injEq, Prod.mk.injEq] at h; obtain ⟨rfl, rfl⟩ := h; exact ⟨src_own (hsub _ (by simp)), rdin_one hk⟩
    · cases h
  · cases h
theorem srcB_ok {u : AV} {ys : List Bool} {rd rd' : List (Nat × Blk)} (h : srcB l u = some (ys, rd)) (hsub : ∀ p, p ∈ rd → p ∈ rd') : SrcOf rd' u 1 ys.length (fun _ _ _ => boolAt ys) ∧ RdIn l rd := by
  unfold srcB at h
  split at h
  · simp only [Option.some.injEq, Prod.mk.injEq] at h; obtain ⟨rfl, rfl⟩ := h; exact ⟨src_roB, rdin_nil⟩
  · split at h
    · rename_i hk
      simp only [Option.some.injEq, Prod.mk.injEq] at h; obtain ⟨rfl, rfl⟩ := h; exact ⟨src_ownB (hsub _ (by simp)), rdin_one hk⟩
    · cases h
  · cases h
theorem srcR_ok {u : AV} {ys : List (List Int)} {rd rd' : List (Nat × Blk)} (h : srcR l u = some (ys, rd)) (hsub : ∀ p, p ∈ rd → p ∈ rd') : SrcOf rd' u 1 ys.length (fun Z w ν j es => R Z w (.roI (ys.getD j [])) ν false es) ∧ RdIn l rd := by
  unfold srcR at h
  split at h
  · simp only [Option.some.injEq, Prod.mk.injEq] at h; obtain ⟨rfl, rfl⟩ := h; exact ⟨src_roII, rdin_nil⟩
  · split at h
    · rename_i hk
      simp only [Option.some.injEq, Prod.mk.injEq] at h; obtain ⟨rfl, rfl⟩ := h; exact ⟨src_ownR (hsub _ (by simp)), rdin_one hk⟩
    · cases h
  · cases h

theorem evApp_ok {o : Oper} {t e kn : Nat} {i ie : TI} {x y : Operand} {r : EvR} (ho : o.op = .call ⟨.builtin .append, #[x, y], #[t, t]⟩) (ht : TOK P t i) (hk : i.k = .slc e) (he : TOK P e ie) (hsz : ie.size = 1) (hby : ie.bytes ≤ 100) (h : evApp l kn (get x) (get y) = some r) (hob : r.ob) : EvOK P o get l kn r := by
  unfold evApp at h
  split at h
  · rename_i k hx
    split at h
    · rename_i xs hk0
      split at h
      · rename_i ys rd hs
        simp only [Option.some.injEq] at h
        subst h
        obtain ⟨s1, s2⟩ := srcI_ok (rd' := (k, .ints xs) :: rd) hs (fun p hp => List.mem_cons_of_mem _ hp)
        exact ⟨opsem_append_ints (k0 := some k) ho ht hk he hsz hob hby kn hx (fun k' e => by cases e; simp) (fun e => by cases e) s1, rdin_cons hk0 s2, .inr rfl⟩
      · cases h
    · rename_i xs hk0
      split at h
      · rename_i ys rd hs
        simp only [Option.some.injEq] at h
        subst h
        obtain ⟨s1, s2⟩ := srcB_ok (rd' := (k, .bools xs) :: rd) hs (fun p hp => List.mem_cons_of_mem _ hp)
        exact ⟨opsem_append_bools (k0 := some k) ho ht hk he hsz hob hby kn hx (fun k' e => by cases e; simp) (fun e => by cases e) s1, rdin_cons hk0 s2, .inr rfl⟩
      · cases h
    · rename_i xs hk0
      split at h
      · rename_i ys rd hs
        simp only [Option.some.injEq] at h
        subst h
        obtain ⟨s1, s2⟩ := srcR_ok (rd' := (k, .rowsR xs) :: rd) hs (fun p hp => List.mem_cons_of_mem _ hp)
        exact ⟨opsem_append_rowsR (k0 := some k) ho ht hk he hsz hob hby kn hx (fun k' e => by cases e; simp) (fun e => by cases e) s1, rdin_cons hk0 s2, .inr rfl⟩
      · cases h
    · cases h
  · rename_i v hx
    split at h
    · rename_i hn
      have hv := isNil_eq hn
      subst hv
      split at h
      · rename_i ys rd hs
        simp only [Option.some.injEq] at h
        subst h
        obtain ⟨s1, s2⟩ := srcI_ok (rd' := rd) hs (fun p hp => hp)
        exact ⟨opsem_append_ints (k0 := none) (xs := []) ho ht hk he hsz (by simpa using hob) hby kn hx (fun k' e => by cases e) (fun _ => rfl) s1, s2, .inr rfl⟩
      · split at h
        · rename_i ys rd hs
          simp only [Option.some.injEq] at h
          subst h
          obtain ⟨s1, s2⟩ := srcB_ok (rd' := rd) hs (fun p hp => hp)
          exact ⟨opsem_append_bools (k0 := none) (xs := []) ho ht hk he hsz (by simpa using hob) hby kn hx (fun k' e => by cases e) (fun _ => rfl) s1, s2, .inr rfl⟩
        · split at h
          · rename_i ys rd hs
            simp only [Option.some.injEq] at h
            subst h
            obtain ⟨s1, s2⟩ := srcR_ok (rd' := rd) hs (fun p hp => hp)
            exact ⟨opsem_append_rowsR (k0 := none) (xs := []) ho ht hk he hsz (by simpa using hob) hby kn hx (fun k' e => by cases e) (fun _ => rfl) s1, s2, .inr rfl⟩
          · cases h
    · cases h
  · cases h

theorem evAppS_ok {o : Oper} {t e kn : Nat} {i ie : TI} {x y : Operand} {r : EvR} (ho : o.op = .call ⟨.builtin .append, #[x, y], #[t, t]⟩) (ht : TOK P t i) (hk : i.k = .slc e) (he : TOK P e ie) (hsz : 2 ≤ ie.size) (hby : ie.bytes ≤ 1000) (h : evAppS ie.size l kn (get x) (get y) = some r) (hob : r.ob) : EvOK P o get l kn r := by
  unfold evAppS at h
  split at h
  · rename_i s g hy
    split at h
    · rename_i hc
      simp only [Bool.and_eq_true] at hc
      obtain ⟨⟨⟨c0, c1⟩, c2⟩, c3⟩ := hc
      have c0 := Nat.eq_of_beq_eq_true c0
      subst c0
      have hs : ∀ rd, SrcOf rd (get y) ie.size 1 (fun Z w _ _ es => R Z w (g 0) nu0 false es) := fun rd => by rw [hy]; exact src_one c1 c2
      split at h
      · rename_i k hx
        split at h
        · rename_i s' n f hk0
          split at h
          · rename_i hc'
            have hc' := Nat.eq_of_beq_eq_true hc'
            subst hc'
            simp only [Option.some.injEq] at h
            subst h
            exact ⟨opsem_append_avs (k0 := some k) ho ht hk he rfl (by omega) hob.1 hby kn hx (fun k' e => by cases e; simp) (fun e => by cases e) hob.2 c3 (hs _), rdin_one hk0, .inr rfl⟩
          · cases h
        · cases h
      · rename_i v hx
        split at h
        · rename_i hn
          have hv := isNil_eq hn
          subst hv
          simp only [Option.some.injEq] at h
          subst h
          have := opsem_append_avs (k0 := none) (rd := []) (n := 0) (f := fun _ => g 0) ho ht hk he rfl (by omega) (by omega) hby kn hx (fun k' e => by cases e) (fun _ => rfl) (fun j hj => absurd hj (Nat.not_lt_zero j)) c3 (hs _)
          exact ⟨this, rdin_nil, .inr rfl⟩
        · cases h
      · cases h
    · cases h
  · cases h

theorem evBuildS_ok {o : Oper} {t e n kn : Nat} {i ie : TI} {parts : Array (Nat × Operand)} {alt : Bool} {r : EvR} (ho : o.op = .buildSlice t n parts) (ht : TOK P t i) (hk : i.k = .slc e) (he : TOK P e ie) (hp : partsOK n parts = true) (h : evBuildS ie kn alt n (elemsOf get parts) = some r) : EvOK P o get l kn r := by
  unfold evBuildS at h
  split at h
  · rename_i hc
    simp only [Bool.and_eq_true, Nat.ble_eq] at hc
    obtain ⟨⟨c1, c2⟩, c3⟩ := hc
    have c2 := Nat.eq_of_beq_eq_true c2
    have hnl : n = (elemsOf get parts).length := by
      simp only [partsOK, Bool.and_eq_true] at hp
      have := Nat.eq_of_beq_eq_true hp.1
      simpa [elemsOf] using this.symm
    have hlim : n * ie.size ≤ 16777216 := by rw [c2]; omega
    split at h
    · rename_i xs hx
      split at h
      · simp only [Option.some.injEq] at h
        subst h
        exact ⟨opsem_buildO ho ht hk he hp c1 (by omega) hlim kn (by rw [c2]; exact build_ints hx hnl) (fun _ _ => trivial), rdin_nil, .inr rfl⟩
      · simp only [Option.some.injEq] at h
        subst h
        refine ⟨opsem_buildR ho ht hk he hp c1 ?_ (by omega) hlim (by rw [c2]; exact build_roI hx hnl) rfl, rdin_nil, .inl rfl⟩
        rw [collI_ok hx]; simp [allN, men]
    · split at h
      · rename_i xs hx
        simp only [Option.some.injEq] at h
        subst h
        refine ⟨opsem_buildR ho ht hk he hp c1 ?_ (by omega) hlim (by rw [c2]; exact build_roB hx hnl) rfl, rdin_nil, .inl rfl⟩
        rw [collB_ok hx]; simp [allN, men]
      · split at h
        · rename_i xs hx
          split at h
          · simp only [Option.some.injEq] at h
            subst h
            exact ⟨opsem_buildO ho ht hk he hp c1 (by omega) hlim kn (by rw [c2]; exact build_rowsR hx hnl) (fun _ _ => trivial), rdin_nil, .inr rfl⟩
          · simp only [Option.some.injEq] at h
            subst h
            refine ⟨opsem_buildR ho ht hk he hp c1 ?_ (by omega) hlim (by rw [c2]; exact build_roII hx hnl) rfl, rdin_nil, .inl rfl⟩
            rw [collII_ok hx]; simp [allN, men]
        · cases h
  · split at h
    · rename_i hc
      simp only [Bool.and_eq_true, Nat.ble_eq] at hc
      obtain ⟨⟨⟨⟨⟨c1, c2⟩, c3⟩, c4⟩, c5⟩, c6⟩ := hc
      have hnl : n = (elemsOf get parts).length := by
        simp only [partsOK, Bool.and_eq_true] at hp
        have := Nat.eq_of_beq_eq_true hp.1
        simpa [elemsOf] using this.symm
      have hlim : n * ie.size ≤ 1000000 * 16 := Nat.mul_le_mul c6 c5
      split at h
      · rename_i a hes
        simp only [Option.some.injEq] at h
        subst h
        exact ⟨opsem_buildR ho ht hk he hp c1 c2 (by omega) (by omega) (build_ro1 hes c3 hnl) rfl, rdin_nil, .inl rfl⟩
      · simp only [Option.some.injEq] at h
        subst h
        exact ⟨opsem_buildR ho ht hk he hp c1 c2 (by omega) (by omega) (build_ro c3 hnl) rfl, rdin_nil, .inl rfl⟩
    · cases h

theorem strip_R {Z : Nat → Prop} {w : World} {ν : Nat → Value} {u : AV} {cs : List Value} (hg : gd u) (h : R Z w u ν true cs) : R Z w (strip u) ν true cs := by
  cases u <;> first | exact h | exact h.1 hg
theorem strip_men {μ : Nat → Bool} {u : AV} (hg : gd u) (h : men μ u = true) : men μ (strip u) = true := by
  cases u <;> first | exact h | (rename_i g _; cases g with
    | true => exact h
    | false => cases hg)

theorem evPick_ok {o : Oper} {kn : Nat} {c a b : Operand} {r : EvR} (ho : o.op = .pick c a b) (h : evPick (get c) (get a) (get b) = some r) (hob : r.ob) : EvOK P o get l kn r := by
  have key : ∀ (p : Bool) (v : AV), strip (get c) = .bool p → gd (get c) → (p = true → gd (get a)) → (p = false → gd (get b)) → (∀ (Z : Nat → Prop) (w : World) (ν : Nat → Value) (y : Value), R Z w (if p then strip (get a) else strip (get b)) ν true [y] → R Z w v ν true [y]) → (∀ μ, men μ v = true) → OpSem P o get v [] [] none := by
    intro p v hc g1 g2 g3 hv hm
    refine opsem_pure fun K Z ν w ev μ rs h1 hg hx hrd => ?_
    have r1 := strip_R g1 (hx c (by rw [ho]; simp [Op.operands])).1
    rw [hc] at r1
    have e1 := one1 r1
    have ra := hx a (by rw [ho]; simp [Op.operands])
    have rb := hx b (by rw [ho]; simp [Op.operands])
    refine ⟨if p then ev a else ev b, by simp [execOp, ho, e1, asBool, Sem.run_bind, Result.andThen, Sem.run], hv Z w ν _ ?_, hm μ⟩
    cases p
    · exact strip_R (g3 rfl) rb.1
    · exact strip_R (g2 rfl) ra.1
  unfold evPick at h
  split at h
  · rename_i p hc
    split at h
    · rename_i x y hx hy
      simp only [Option.some.injEq] at h
      subst h
      refine ⟨key p _ hc hob.1 hob.2.1 hob.2.2 (fun Z w ν v hr => ?_) (fun _ => rfl), rdin_nil, .inl rfl⟩
      rw [hx, hy] at hr
      cases p <;> exact hr
    · rename_i x y hx hy
      simp only [Option.some.injEq] at h
      subst h
      refine ⟨key p _ hc hob.1 hob.2.1 hob.2.2 (fun Z w ν v hr => ?_) (fun _ => rfl), rdin_nil, .inl rfl⟩
      rw [hx, hy] at hr
      cases p <;> exact hr
    · cases h
  · cases h

theorem evTake_ok {o : Oper} {t kn : Nat} {i : TI} {a : Operand} {r : EvR} (ho : o.op = .load t a) (ht : TOK P t i) (h : evTake i l kn (get a) = some r) (hob : r.ob) : EvOK P o get l kn r := by
  unfold evTake at h
  split at h
  · rename_i k sz ix off ha
    split at h
    · rename_i xs hk
      split at h
      · rename_i hs
        simp only [Option.some.injEq] at h
        subst h
        exact ⟨opsem_take ho ht hs ha hob kn, rdin_one hk, .inr rfl⟩
      · cases h
    · cases h
  · cases h

theorem evx_ok (htb : TabOK P tb) (hmz : ∀ t i, tb t = some i → men noK i.zero = true) (o : Oper) {kn : Nat} {alt : Bool} {r : EvR} (h : evx tb get l kn alt o.op = some r) (hob : r.ob) : EvOK P o get l kn r := by
  have hp : ∀ {e : Evp}, e = evp tb get l o.op → ofP e = some r → EvOK P o get l kn r := by
    intro e he h
    subst he
    exact ofP_ok h hob (fun v rd ob he h' => evp_sem htb hmz o he h') (fun v rd ob he => evp_rd he)
  unfold evx at h
  split at h
  case h_1 t ho =>
    split at h
    · rename_i i ht
      simp only [Option.some.injEq] at h
      subst h
      exact ⟨opsem_alloc ho (htb t i ht) (hmz t i ht) kn, rdin_nil, .inr rfl⟩
    · cases h
  case h_2 t x ho =>
    split at h
    · rename_i hc
      split at h
      · rename_i ha
        simp only [Option.some.injEq] at h
        subst h
        simp only [Bool.and_eq_true] at ha
        exact ⟨opsem_boxR ho hc ha.2, rdin_nil, .inl rfl⟩
      · simp only [Option.some.injEq] at h
        subst h
        exact ⟨opsem_box ho hc kn, rdin_nil, .inr rfl⟩
    · cases h
  case h_3 t a c ho =>
    split at h
    · rename_i i ht
      split at h
      · rename_i e hk
        split at h
        · rename_i ie he
          split at h
          · rename_i n n' hga hgc
            split at h
            · rename_i hc
              simp only [Bool.and_eq_true, Nat.ble_eq] at hc
              split at h
              · rename_i B hB
                simp only [Option.some.injEq] at h
                subst h
                obtain ⟨rfl, o2, o3⟩ := hob
                have hz := hmz e ie he
                have mk := fun {B : Blk} => opsem_make (get := get) (B := B) ho (htb t i ht) hk (htb e ie he) hga hgc o2 o3 hc.1 (by omega) kn
                refine ⟨?_, rdin_nil, .inr rfl⟩
                unfold makeB at hB
                split at hB
                · rename_i z hzz
                  split at hB
                  · rename_i z0
                    subst z0
                    split at hB
                    · rename_i hs
                      simp only [Option.some.injEq] at hB
                      subst hB
                      exact mk (make_ints hzz (Nat.eq_of_beq_eq_true hs)) (fun _ => trivial)
                    · cases hB
                  · cases hB
                · rename_i b hzz
                  split at hB
                  · split at hB
                    · rename_i hs
                      simp only [Option.some.injEq] at hB
                      subst hB
                      exact mk (make_bools hzz (Nat.eq_of_beq_eq_true hs)) (fun _ => trivial)
                    · cases hB
                  · cases hB
                · rename_i v hzz
                  split at hB
                  · rename_i hn
                    simp only [Bool.and_eq_true] at hn
                    have hv := isNil_eq hn.1
                    subst hv
                    split at hB
                    · simp only [Option.some.injEq] at hB
                      subst hB
                      exact mk (make_rowsR hzz (Nat.eq_of_beq_eq_true hn.2)) (fun _ => trivial)
                    · simp only [Option.some.injEq] at hB
                      subst hB
                      exact mk (make_rows hzz (Nat.eq_of_beq_eq_true hn.2)) (fun _ => trivial)
                  · cases hB
                · rename_i lz hzz
                  simp only [Option.some.injEq] at hB
                  subst hB
                  rw [← hzz]
                  exact mk make_avs (fun μ j _ => men_free hz)
                · cases hB
              · cases h
            · cases h
          · cases h
        · cases h
      · cases h
    · cases h
  case h_4 t a x ho =>
    split at h
    · rename_i i ht
      exact evStore_ok ho (htb t i ht) h hob
    · cases h
  case h_5 t n parts ho =>
    split at h
    · rename_i i ht
      split at h
      · rename_i e hk
        split at h
        · rename_i ie he
          split at h
          · rename_i hpp
            exact evBuildS_ok ho (htb t i ht) hk (htb e ie he) hpp h
          · cases h
        · cases h
      · cases h
    · cases h
  case h_6 c a b ho => exact evPick_ok ho h hob
  case h_7 t a ho =>
    split at h
    · rename_i i ht
      split at h
      · rename_i r' hr
        simp only [Option.some.injEq] at h
        subst h
        exact evTake_ok ho (htb t i ht) hr hob
      · exact hp (by rw [ho]; simp only [evp, ht]) h
    · cases h
  case h_8 c ho =>
    split at h
    · rename_i hcal
      split at h
      · rename_i x y t t' hargs hts
        split at h
        · rename_i htt
          have htt := Nat.eq_of_beq_eq_true htt
          subst htt
          split at h
          · rename_i i ht
            split at h
            · rename_i e hk
              split at h
              · rename_i ie he
                split at h
                · rename_i hc
                  simp only [Bool.and_eq_true, Nat.ble_eq] at hc
                  have hceq : o.op = .call ⟨.builtin .append, #[x, y], #[t, t]⟩ := by
                    rw [ho]
                    congr 1
                    obtain ⟨cal, args, ats⟩ := c
                    simp only at hcal hargs hts
                    subst hcal
                    congr
                    · apply Array.ext'; simpa using hargs
                    · apply Array.ext'; simpa using hts
                  exact evApp_ok hceq (htb t i ht) hk (htb e ie he) (Nat.eq_of_beq_eq_true hc.1) hc.2 h hob
                · split at h
                  · rename_i hc
                    simp only [Bool.and_eq_true, Nat.ble_eq] at hc
                    have hceq : o.op = .call ⟨.builtin .append, #[x, y], #[t, t]⟩ := by
                      rw [ho]
                      congr 1
                      obtain ⟨cal, args, ats⟩ := c
                      simp only at hcal hargs hts
                      subst hcal
                      congr
                      · apply Array.ext'; simpa using hargs
                      · apply Array.ext'; simpa using hts
                    exact evAppS_ok hceq (htb t i ht) hk (htb e ie he) hc.1 hc.2 h hob
                  · cases h
              · cases h
            · cases h
          · cases h
        · cases h
      · cases h
    · exact hp (by rw [ho]) h
  case h_9 => exact hp rfl h
end

end Go.Proofs.Ytgminhedbeblpaa.Cal
