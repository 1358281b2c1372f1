/- Own texts of the proof, merged, in order. -/
import Derived.Test.YtbcghiagomkadaaS5
set_option linter.unusedVariables false
set_option linter.unusedSimpArgs false
namespace Go.Proofs.Ytbcghiagomkadaa.Cal
open Go
def RdIn (l : List (Nat × Option Blk)) (rd : List (Nat × Blk)) : Prop := ∀ p, p ∈ rd → lkr l p.1 = some p.2
theorem Za7 {l : List (Nat × Option Blk)} : RdIn l [] := fun p h => by cases h
theorem Za9 {l : List (Nat × Option Blk)} {k : Nat} {b : Blk} (h : lkr l k = some b) : RdIn l [(k, b)] := fun p hp => by
  simp at hp; subst hp; exact h
theorem Zbz {l : List (Nat × Option Blk)} {k : Nat} {b : Blk} {rd : List (Nat × Blk)} (h : lkr l k = some b) (h2 : RdIn l rd) : RdIn l ((k, b) :: rd) := fun p hp => by
  rcases List.mem_cons.1 hp with rfl | hp
  · exact h
  · exact h2 p hp
theorem evLoad_rd {i : TI} {l : List (Nat × Option Blk)} {u v : AV} {rd : List (Nat × Blk)} {ob : Prop} (h : evLoad i l u = some (v, rd, ob)) : RdIn l rd := by
  unfold evLoad at h
  (repeat' split at h) <;> first
    | (cases h; done)
    | (simp only [Option.some.injEq, Prod.mk.injEq] at h; obtain ⟨_, rfl, _⟩ := h; first | exact Za7 | exact Za9 (by assumption))
theorem evField_rd {fs : List (Nat × Nat × Bool)} {f : Nat} {l : List (Nat × Option Blk)} {u v : AV} {rd : List (Nat × Blk)} {ob : Prop} (h : evField fs f l u = some (v, rd, ob)) : RdIn l rd := by
  unfold evField at h
  (repeat' split at h) <;> first
    | (cases h; done)
    | (simp only [Option.some.injEq, Prod.mk.injEq] at h; obtain ⟨_, rfl, _⟩ := h; first | exact Za7 | exact Za9 (by assumption))
theorem evIndex_rd {sz : Nat} {l : List (Nat × Option Blk)} {u v : AV} {z : Int} {rd : List (Nat × Blk)} {ob : Prop} (h : evIndex sz l u z = some (v, rd, ob)) : RdIn l rd := by
  unfold evIndex at h
  (repeat' split at h) <;> first
    | (cases h; done)
    | (simp only [Option.some.injEq, Prod.mk.injEq] at h; obtain ⟨_, rfl, _⟩ := h; first | exact Za7 | exact Za9 (by assumption))
theorem lenOf_rd {l : List (Nat × Option Blk)} {u v : AV} {rd : List (Nat × Blk)} {ob : Prop} (h : lenOf l u = some (v, rd, ob)) : RdIn l rd := by
  unfold lenOf at h
  (repeat' split at h) <;> first
    | (cases h; done)
    | (simp only [Option.some.injEq, Prod.mk.injEq] at h; obtain ⟨_, rfl, _⟩ := h; first | exact Za7 | exact Za9 (by assumption))
theorem evBin_rd {op : BinOp} {u1 u2 v : AV} {l : List (Nat × Option Blk)} {rd : List (Nat × Blk)} {ob : Prop} (h : evBin op u1 u2 = some (v, rd, ob)) : RdIn l rd := by
  unfold evBin at h
  split at h <;> first
    | (cases h; done)
    | (simp only [Option.some.injEq, Prod.mk.injEq] at h; obtain ⟨_, rfl, _⟩ := h; exact Za7)
theorem evSlice_rd {u v : AV} {lo : Int} {hi : Option Int} {l : List (Nat × Option Blk)} {rd : List (Nat × Blk)} {ob : Prop} (h : evSlice u lo hi = some (v, rd, ob)) : RdIn l rd := by
  unfold evSlice at h
  split at h <;> first
    | (cases h; done)
    | (simp only [Option.some.injEq, Prod.mk.injEq] at h; obtain ⟨_, rfl, _⟩ := h; exact Za7)
theorem evp_rd {tb : Nat → Option TI} {get : Operand → AV} {l : List (Nat × Option Blk)} {op : Op} {v : AV} {rd : List (Nat × Blk)} {ob : Prop} (h : evp tb get l op = some (v, rd, ob)) : RdIn l rd := by
  unfold evp at h
  (repeat' split at h) <;> first
    | (cases h; done)
    | exact evLoad_rd h
    | exact evField_rd h
    | exact evIndex_rd h
    | exact lenOf_rd h
    | exact evBin_rd h
    | exact evSlice_rd h
    | (simp only [Option.some.injEq, Prod.mk.injEq] at h; obtain ⟨_, rfl, _⟩ := h; first | exact Za7 | exact Za9 (by assumption))
section
variable {P : Program} {get : Operand → AV} {l : List (Nat × Option Blk)} {tb : Nat → Option TI}
theorem evp_sem (htb : TabOK P tb) (hmz : ∀ t i, tb t = some i → men noK i.zero = true) (o : Oper) {v : AV} {rd : List (Nat × Blk)} {ob : Prop} (h : evp tb get l o.op = some (v, rd, ob)) (hob : ob) : OpSem P o get v rd [] none :=
  Zdu fun K Z ν w ev μ rs h1 hg hx hrd => evp_ok htb hmz o h1 hg hx h hob hrd
/-- What is asked of an answer of the table. -/
structure EvOK (P : Program) (o : Oper) (get : Operand → AV) (l : List (Nat × Option Blk)) (kn : Nat) (r : EvR) : Prop where
  sem : OpSem P o get r.val r.rd r.wr r.kn
  rd : RdIn l r.rd
  kn : r.kn = none ∨ r.kn = some kn
theorem ofP_ok {o : Oper} {e : Evp} {r : EvR} {kn : Nat} (h : ofP e = some r) (hob : r.ob) (hs : ∀ v rd ob, e = some (v, rd, ob) → ob → OpSem P o get v rd [] none) (hrd : ∀ v rd ob, e = some (v, rd, ob) → RdIn l rd) : EvOK P o get l kn r := by
  unfold ofP at h
  split at h
  · simp only [Option.some.injEq] at h
    subst h
    exact ⟨hs _ _ _ rfl hob, hrd _ _ _ rfl, .inl rfl⟩
  · cases h
theorem stBox_ok {o : Oper} {t k off kn : Nat} {i : TI} {a x : Operand} {u : AV} {r : EvR} (ho : o.op = .store t a x) (ht : TOK P t i) (ha : (get a = .own k ∧ off = 0) ∨ get a = .adr k 0 0 off) (hk : lkr l k = some (.box u)) (h : stBox i k u off (get x) = some r) : EvOK P o get l kn r := by
  unfold stBox at h
  split at h
  · rename_i hc
    simp only [Option.some.injEq] at h
    subst h
    simp only [Bool.and_eq_true, Nat.ble_eq] at hc
    obtain ⟨⟨⟨⟨⟨⟨⟨c1, c2⟩, c3⟩, c4⟩, c5⟩, c6⟩, c7⟩, c8⟩ := hc
    refine ⟨opsem_store_box ho ht ha c1 c2 (Nat.eq_of_beq_eq_true c3) (by omega) c5 c6 c7 (fun hu => ?_), Za9 hk, .inl rfl⟩
    rw [hu] at c8
    simpa using c8
  · cases h
theorem evStore_ok {o : Oper} {t kn : Nat} {i : TI} {a x : Operand} {r : EvR} (ho : o.op = .store t a x) (ht : TOK P t i) (h : evStore i l (get a) (get x) = some r) (hob : r.ob) : EvOK P o get l kn r := by
  unfold evStore at h
  split at h
  · rename_i k ha
    split at h
    · rename_i u hk
      exact stBox_ok ho ht (.inl ⟨ha, rfl⟩) hk h
    · cases h
  · rename_i k sz ix off ha
    split at h
    · rename_i u hk
      split at h
      · exact stBox_ok ho ht (.inr ha) hk h
      · cases h
    · rename_i xs hk
      split at h
      · rename_i n hsz hx
        simp only [Option.some.injEq] at h
        subst h
        exact ⟨opsem_store_ints ho ht hsz ha hx hob, Za9 hk, .inl rfl⟩
      · cases h
    · rename_i xs hk
      split at h
      · rename_i n hsz hx
        simp only [Option.some.injEq] at h
        subst h
        exact ⟨opsem_store_bools ho ht hsz ha hx hob, Za9 hk, .inl rfl⟩
      · cases h
    · rename_i xs hk
      split at h
      · rename_i n hsz hx
        simp only [Option.some.injEq] at h
        subst h
        exact ⟨opsem_store_rowsR ho ht hsz ha hx hob, Za9 hk, .inl rfl⟩
      · cases h
    · rename_i xs ih k1 hk
      split at h
      · rename_i k2 hsz hx
        split at h
        · rename_i zs hk2
          split at h
          · cases h
          · rename_i hne
            simp only [Option.some.injEq] at h
            subst h
            obtain ⟨rfl, hix⟩ := hob
            exact ⟨opsem_put ho ht hsz ha hx hix (by cases hb : Nat.beq k k2 with | false => rfl | true => exact absurd hb hne), Zbz hk (Za9 hk2), .inl rfl⟩
        · cases h
      · cases h
    · rename_i s n f hk
      split at h
      · rename_i hc
        simp only [Option.some.injEq] at h
        subst h
        simp only [Bool.and_eq_true, Nat.ble_eq] at hc
        obtain ⟨⟨⟨⟨⟨c0, c1⟩, c2⟩, c3⟩, c4⟩, c5⟩ := hc
        have c0 := Nat.eq_of_beq_eq_true c0
        subst c0
        obtain ⟨o1, o2, o3, o4, o5⟩ := hob
        exact ⟨opsem_store_avs ho ht ha c1 c2 (Nat.eq_of_beq_eq_true c3) (by omega) o1 o2 o3 o4 c5 (fun hu => by rw [hu] at o5; simpa using o5), Za9 hk, .inl rfl⟩
      · cases h
    · cases h
  · cases h
theorem Ze5 {v : Value} (h : isNilS v = true) : v = .slice none 0 0 := by
  unfold isNilS at h
  split at h
  · rfl
  · cases h
theorem Zfa {u : AV} {ys : List Int} {rd rd' : List (Nat × Blk)} (h : srcI l u = some (ys, rd)) (hsub : ∀ p, p ∈ rd → p ∈ rd') : SrcOf rd' u 1 ys.length (fun _ _ _ => intAt ys) ∧ RdIn l rd := by
  unfold srcI at h
  split at h
  · simp only [Option.some.injEq, Prod.mk.injEq] at h; obtain ⟨rfl, rfl⟩ := h; exact ⟨src_roI, Za7⟩
  · split at h
    · rename_i hk
      simp only [Option.some.injEq, Prod.mk.injEq] at h; obtain ⟨rfl, rfl⟩ := h; exact ⟨src_own (hsub _ (by simp)), Za9 hk⟩
    · cases h
  · cases h
theorem Zfb {u : AV} {ys : List Bool} {rd rd' : List (Nat × Blk)} (h : srcB l u = some (ys, rd)) (hsub : ∀ p, p ∈ rd → p ∈ rd') : SrcOf rd' u 1 ys.length (fun _ _ _ => boolAt ys) ∧ RdIn l rd := by
  unfold srcB at h
  split at h
  · simp only [Option.some.injEq, Prod.mk.injEq] at h; obtain ⟨rfl, rfl⟩ := h; exact ⟨src_roB, Za7⟩
  · split at h
    · rename_i hk
      simp only [Option.some.injEq, Prod.mk.injEq] at h; obtain ⟨rfl, rfl⟩ := h; exact ⟨src_ownB (hsub _ (by simp)), Za9 hk⟩
    · cases h
  · cases h
theorem Zg0 {u : AV} {ys : List (List Int)} {rd rd' : List (Nat × Blk)} (h : srcR l u = some (ys, rd)) (hsub : ∀ p, p ∈ rd → p ∈ rd') : SrcOf rd' u 1 ys.length (fun Z w ν j es => R Z w (.roI (ys.getD j [])) ν false es) ∧ RdIn l rd := by
  unfold srcR at h
  split at h
  · simp only [Option.some.injEq, Prod.mk.injEq] at h; obtain ⟨rfl, rfl⟩ := h; exact ⟨src_roII, Za7⟩
  · split at h
    · rename_i hk
      simp only [Option.some.injEq, Prod.mk.injEq] at h; obtain ⟨rfl, rfl⟩ := h; exact ⟨src_ownR (hsub _ (by simp)), Za9 hk⟩
    · cases h
  · cases h
theorem evApp_ok {o : Oper} {t e kn : Nat} {i ie : TI} {x y : Operand} {r : EvR} (ho : o.op = .call ⟨.builtin .append, #[x, y], #[t, t]⟩) (ht : TOK P t i) (hk : i.k = .slc e) (he : TOK P e ie) (hsz : ie.size = 1) (hby : ie.bytes ≤ 100) (h : evApp l kn (get x) (get y) = some r) (hob : r.ob) : EvOK P o get l kn r := by
  unfold evApp at h
  split at h
  · rename_i k hx
    split at h
    · rename_i xs hk0
      split at h
      · rename_i ys rd hs
        simp only [Option.some.injEq] at h
        subst h
        obtain ⟨s1, s2⟩ := Zfa (rd' := (k, .ints xs) :: rd) hs (fun p hp => List.mem_cons_of_mem _ hp)
        exact ⟨opsem_append_ints (k0 := some k) ho ht hk he hsz hob hby kn hx (fun k' e => by cases e; simp) (fun e => by cases e) s1, Zbz hk0 s2, .inr rfl⟩
      · cases h
    · rename_i xs hk0
      split at h
      · rename_i ys rd hs
        simp only [Option.some.injEq] at h
        subst h
        obtain ⟨s1, s2⟩ := Zfb (rd' := (k, .bools xs) :: rd) hs (fun p hp => List.mem_cons_of_mem _ hp)
        exact ⟨opsem_append_bools (k0 := some k) ho ht hk he hsz hob hby kn hx (fun k' e => by cases e; simp) (fun e => by cases e) s1, Zbz hk0 s2, .inr rfl⟩
      · cases h
    · rename_i xs hk0
      split at h
      · rename_i ys rd hs
        simp only [Option.some.injEq] at h
        subst h
        obtain ⟨s1, s2⟩ := Zg0 (rd' := (k, .rowsR xs) :: rd) hs (fun p hp => List.mem_cons_of_mem _ hp)
        exact ⟨opsem_append_rowsR (k0 := some k) ho ht hk he hsz hob hby kn hx (fun k' e => by cases e; simp) (fun e => by cases e) s1, Zbz hk0 s2, .inr rfl⟩
      · cases h
    · cases h
  · rename_i v hx
    split at h
    · rename_i hn
      have hv := Ze5 hn
      subst hv
      split at h
      · rename_i ys rd hs
        simp only [Option.some.injEq] at h
        subst h
        obtain ⟨s1, s2⟩ := Zfa (rd' := rd) hs (fun p hp => hp)
        exact ⟨opsem_append_ints (k0 := none) (xs := []) ho ht hk he hsz (by simpa using hob) hby kn hx (fun k' e => by cases e) (fun _ => rfl) s1, s2, .inr rfl⟩
      · split at h
        · rename_i ys rd hs
          simp only [Option.some.injEq] at h
          subst h
          obtain ⟨s1, s2⟩ := Zfb (rd' := rd) hs (fun p hp => hp)
          exact ⟨opsem_append_bools (k0 := none) (xs := []) ho ht hk he hsz (by simpa using hob) hby kn hx (fun k' e => by cases e) (fun _ => rfl) s1, s2, .inr rfl⟩
        · split at h
          · rename_i ys rd hs
            simp only [Option.some.injEq] at h
            subst h
            obtain ⟨s1, s2⟩ := Zg0 (rd' := rd) hs (fun p hp => hp)
            exact ⟨opsem_append_rowsR (k0 := none) (xs := []) ho ht hk he hsz (by simpa using hob) hby kn hx (fun k' e => by cases e) (fun _ => rfl) s1, s2, .inr rfl⟩
          · cases h
    · cases h
  · cases h
theorem evAppS_ok {o : Oper} {t e kn : Nat} {i ie : TI} {x y : Operand} {r : EvR} (ho : o.op = .call ⟨.builtin .append, #[x, y], #[t, t]⟩) (ht : TOK P t i) (hk : i.k = .slc e) (he : TOK P e ie) (hsz : 2 ≤ ie.size) (hby : ie.bytes ≤ 1000) (h : evAppS ie.size l kn (get x) (get y) = some r) (hob : r.ob) : EvOK P o get l kn r := by
  unfold evAppS at h
  split at h
  · rename_i s g hy
    split at h
    · rename_i hc
      simp only [Bool.and_eq_true] at hc
      obtain ⟨⟨⟨c0, c1⟩, c2⟩, c3⟩ := hc
      have c0 := Nat.eq_of_beq_eq_true c0
      subst c0
      have hs : ∀ rd, SrcOf rd (get y) ie.size 1 (fun Z w _ _ es => R Z w (g 0) nu0 false es) := fun rd => by rw [hy]; exact src_one c1 c2
      split at h
      · rename_i k hx
        split at h
        · rename_i s' n f hk0
          split at h
          · rename_i hc'
            have hc' := Nat.eq_of_beq_eq_true hc'
            subst hc'
            simp only [Option.some.injEq] at h
            subst h
            exact ⟨opsem_append_avs (k0 := some k) ho ht hk he rfl (by omega) hob.1 hby kn hx (fun k' e => by cases e; simp) (fun e => by cases e) hob.2 c3 (hs _), Za9 hk0, .inr rfl⟩
          · cases h
        · cases h
      · rename_i v hx
        split at h
        · rename_i hn
          have hv := Ze5 hn
          subst hv
          simp only [Option.some.injEq] at h
          subst h
          have := opsem_append_avs (k0 := none) (rd := []) (n := 0) (f := fun _ => g 0) ho ht hk he rfl (by omega) (by omega) hby kn hx (fun k' e => by cases e) (fun _ => rfl) (fun j hj => absurd hj (Nat.not_lt_zero j)) c3 (hs _)
          exact ⟨this, Za7, .inr rfl⟩
        · cases h
      · cases h
    · cases h
  · cases h
theorem evBuildS_ok {o : Oper} {t e n kn : Nat} {i ie : TI} {parts : Array (Nat × Operand)} {alt : Bool} {r : EvR} (ho : o.op = .buildSlice t n parts) (ht : TOK P t i) (hk : i.k = .slc e) (he : TOK P e ie) (hp : partsOK n parts = true) (h : evBuildS ie kn alt n (elemsOf get parts) = some r) : EvOK P o get l kn r := by
  unfold evBuildS at h
  split at h
  · rename_i hc
    simp only [Bool.and_eq_true] at hc
    obtain ⟨⟨_, c2⟩, c3⟩ := hc
    have c2 := Nat.eq_of_beq_eq_true c2
    have c3 := Nat.eq_of_beq_eq_true c3
    subst c3
    have hnl : (elemsOf get parts).length = 0 := by
      simp only [partsOK, Bool.and_eq_true] at hp
      have := Nat.eq_of_beq_eq_true hp.1
      simpa [elemsOf] using this
    have he0 : elemsOf get parts = [] := List.eq_nil_of_length_eq_zero hnl
    simp only [Option.some.injEq] at h
    subst h
    exact ⟨Zdm ho ht hk he hp (by rw [he0]; rfl) (by omega) (by omega) kn (fun Z w ν y F hr => Za8 (fun _ _ => rfl) (fun j es hj _ => absurd hj (Nat.not_lt_zero j)) (by rw [c2] at hr; exact hr)) (fun _ _ => trivial), Za7, .inr rfl⟩
  split at h
  · rename_i hc
    simp only [Bool.and_eq_true, Nat.ble_eq] at hc
    obtain ⟨⟨c1, c2⟩, c3⟩ := hc
    have c2 := Nat.eq_of_beq_eq_true c2
    have hnl : n = (elemsOf get parts).length := by
      simp only [partsOK, Bool.and_eq_true] at hp
      have := Nat.eq_of_beq_eq_true hp.1
      simpa [elemsOf] using this.symm
    have hlim : n * ie.size ≤ 16777216 := by rw [c2]; omega
    split at h
    · rename_i xs hx
      split at h
      · simp only [Option.some.injEq] at h
        subst h
        exact ⟨Zdm ho ht hk he hp c1 (by omega) hlim kn (by rw [c2]; exact build_ints hx hnl) (fun _ _ => trivial), Za7, .inr rfl⟩
      · simp only [Option.some.injEq] at h
        subst h
        refine ⟨Zci ho ht hk he hp c1 ?_ (by omega) hlim (by rw [c2]; exact build_roI hx hnl) rfl, Za7, .inl rfl⟩
        rw [Ze6 hx]; simp [allN, men]
    · split at h
      · rename_i xs hx
        simp only [Option.some.injEq] at h
        subst h
        refine ⟨Zci ho ht hk he hp c1 ?_ (by omega) hlim (by rw [c2]; exact build_roB hx hnl) rfl, Za7, .inl rfl⟩
        rw [Zgm hx]; simp [allN, men]
      · split at h
        · rename_i xs hx
          split at h
          · simp only [Option.some.injEq] at h
            subst h
            exact ⟨Zdm ho ht hk he hp c1 (by omega) hlim kn (by rw [c2]; exact build_rowsR hx hnl) (fun _ _ => trivial), Za7, .inr rfl⟩
          · simp only [Option.some.injEq] at h
            subst h
            refine ⟨Zci ho ht hk he hp c1 ?_ (by omega) hlim (by rw [c2]; exact build_roII hx hnl) rfl, Za7, .inl rfl⟩
            rw [Zeo hx]; simp [allN, men]
        · cases h
  · split at h
    · rename_i hc
      simp only [Bool.and_eq_true, Nat.ble_eq] at hc
      obtain ⟨⟨⟨⟨⟨c1, c2⟩, c3⟩, c4⟩, c5⟩, c6⟩ := hc
      have hnl : n = (elemsOf get parts).length := by
        simp only [partsOK, Bool.and_eq_true] at hp
        have := Nat.eq_of_beq_eq_true hp.1
        simpa [elemsOf] using this.symm
      have hlim : n * ie.size ≤ 1000000 * 16 := Nat.mul_le_mul c6 c5
      split at h
      · rename_i a hes
        simp only [Option.some.injEq] at h
        subst h
        exact ⟨Zci ho ht hk he hp c1 c2 (by omega) (by omega) (build_ro1 hes c3 hnl) rfl, Za7, .inl rfl⟩
      · simp only [Option.some.injEq] at h
        subst h
        exact ⟨Zci ho ht hk he hp c1 c2 (by omega) (by omega) (build_ro c3 hnl) rfl, Za7, .inl rfl⟩
    · cases h
theorem Zf4 {Z : Nat → Prop} {w : World} {ν : Nat → Value} {u : AV} {cs : List Value} (hg : gd u) (h : R Z w u ν true cs) : R Z w (strip u) ν true cs := by
  cases u <;> first | exact h | exact h.1 hg
theorem strip_men {μ : Nat → Bool} {u : AV} (hg : gd u) (h : men μ u = true) : men μ (strip u) = true := by
  cases u <;> first | exact h | (rename_i g _; cases g with
    | true => exact h
    | false => cases hg)
theorem evPick_ok {o : Oper} {kn : Nat} {c a b : Operand} {r : EvR} (ho : o.op = .pick c a b) (h : evPick (get c) (get a) (get b) = some r) (hob : r.ob) : EvOK P o get l kn r := by
  have key : ∀ (p : Bool) (v : AV), strip (get c) = .bool p → gd (get c) → (p = true → gd (get a)) → (p = false → gd (get b)) → (∀ (Z : Nat → Prop) (w : World) (ν : Nat → Value) (y : Value), R Z w (if p then strip (get a) else strip (get b)) ν true [y] → R Z w v ν true [y]) → (∀ μ, men μ v = true) → OpSem P o get v [] [] none := by
    intro p v hc g1 g2 g3 hv hm
    refine Zdu fun K Z ν w ev μ rs h1 hg hx hrd => ?_
    have r1 := Zf4 g1 (hx c (by rw [ho]; simp [Op.operands])).1
    rw [hc] at r1
    have e1 := one1 r1
    have ra := hx a (by rw [ho]; simp [Op.operands])
    have rb := hx b (by rw [ho]; simp [Op.operands])
    refine ⟨if p then ev a else ev b, by simp [execOp, ho, e1, asBool, Sem.run_bind, Result.andThen, Sem.run], hv Z w ν _ ?_, hm μ⟩
    cases p
    · exact Zf4 (g3 rfl) rb.1
    · exact Zf4 (g2 rfl) ra.1
  unfold evPick at h
  split at h
  · rename_i p hc
    split at h
    · rename_i x y hx hy
      simp only [Option.some.injEq] at h
      subst h
      refine ⟨key p _ hc hob.1 hob.2.1 hob.2.2 (fun Z w ν v hr => ?_) (fun _ => rfl), Za7, .inl rfl⟩
      rw [hx, hy] at hr
      cases p <;> exact hr
    · rename_i x y hx hy
      simp only [Option.some.injEq] at h
      subst h
      refine ⟨key p _ hc hob.1 hob.2.1 hob.2.2 (fun Z w ν v hr => ?_) (fun _ => rfl), Za7, .inl rfl⟩
      rw [hx, hy] at hr
      cases p <;> exact hr
    · cases h
  · cases h
theorem evTake_ok {o : Oper} {t kn : Nat} {i : TI} {a : Operand} {r : EvR} (ho : o.op = .load t a) (ht : TOK P t i) (h : evTake i l kn (get a) = some r) (hob : r.ob) : EvOK P o get l kn r := by
  unfold evTake at h
  split at h
  · rename_i k sz ix off ha
    split at h
    · rename_i xs hk
      split at h
      · rename_i hs
        simp only [Option.some.injEq] at h
        subst h
        exact ⟨opsem_take ho ht hs ha hob kn, Za9 hk, .inr rfl⟩
      · cases h
    · cases h
  · cases h
theorem Zhu (htb : TabOK P tb) (hmz : ∀ t i, tb t = some i → men noK i.zero = true) (o : Oper) {kn : Nat} {alt : Bool} {r : EvR} (h : evx tb get l kn alt o.op = some r) (hob : r.ob) : EvOK P o get l kn r := by
  have hp : ∀ {e : Evp}, e = evp tb get l o.op → ofP e = some r → EvOK P o get l kn r := by
    intro e he h
    subst he
    exact ofP_ok h hob (fun v rd ob he h' => evp_sem htb hmz o he h') (fun v rd ob he => evp_rd he)
  unfold evx at h
  split at h
  case h_1 t ho =>
    split at h
    · rename_i i ht
      simp only [Option.some.injEq] at h
      subst h
      exact ⟨opsem_alloc ho (htb t i ht) (hmz t i ht) kn, Za7, .inr rfl⟩
    · cases h
  case h_2 t x ho =>
    split at h
    · rename_i hc
      split at h
      · rename_i ha
        simp only [Option.some.injEq] at h
        subst h
        simp only [Bool.and_eq_true] at ha
        exact ⟨opsem_boxR ho hc ha.2, Za7, .inl rfl⟩
      · simp only [Option.some.injEq] at h
        subst h
        exact ⟨opsem_box ho hc kn, Za7, .inr rfl⟩
    · cases h
  case h_3 t a c ho =>
    split at h
    · rename_i i ht
      split at h
      · rename_i e hk
        split at h
        · rename_i ie he
          split at h
          · rename_i n n' hga hgc
            split at h
            · rename_i hc
              simp only [Bool.and_eq_true, Nat.ble_eq] at hc
              split at h
              · rename_i B hB
                simp only [Option.some.injEq] at h
                subst h
                obtain ⟨rfl, o2, o3⟩ := hob
                have hz := hmz e ie he
                have mk := fun {B : Blk} => opsem_make (get := get) (B := B) ho (htb t i ht) hk (htb e ie he) hga hgc o2 o3 hc.1 (by omega) kn
                refine ⟨?_, Za7, .inr rfl⟩
                unfold makeB at hB
                split at hB
                · rename_i z hzz
                  split at hB
                  · rename_i z0
                    subst z0
                    split at hB
                    · rename_i hs
                      simp only [Option.some.injEq] at hB
                      subst hB
                      exact mk (make_ints hzz (Nat.eq_of_beq_eq_true hs)) (fun _ => trivial)
                    · cases hB
                  · cases hB
                · rename_i b hzz
                  split at hB
                  · split at hB
                    · rename_i hs
                      simp only [Option.some.injEq] at hB
                      subst hB
                      exact mk (make_bools hzz (Nat.eq_of_beq_eq_true hs)) (fun _ => trivial)
                    · cases hB
                  · cases hB
                · rename_i v hzz
                  split at hB
                  · rename_i hn
                    simp only [Bool.and_eq_true] at hn
                    have hv := Ze5 hn.1
                    subst hv
                    split at hB
                    · simp only [Option.some.injEq] at hB
                      subst hB
                      exact mk (make_rowsR hzz (Nat.eq_of_beq_eq_true hn.2)) (fun _ => trivial)
                    · simp only [Option.some.injEq] at hB
                      subst hB
                      exact mk (make_rows hzz (Nat.eq_of_beq_eq_true hn.2)) (fun _ => trivial)
                  · cases hB
                · rename_i lz hzz
                  simp only [Option.some.injEq] at hB
                  subst hB
                  rw [← hzz]
                  exact mk make_avs (fun μ j _ => Zbr hz)
                · cases hB
              · cases h
            · cases h
          · cases h
        · cases h
      · cases h
    · cases h
  case h_4 t a x ho =>
    split at h
    · rename_i i ht
      exact evStore_ok ho (htb t i ht) h hob
    · cases h
  case h_5 t n parts ho =>
    split at h
    · rename_i i ht
      split at h
      · rename_i e hk
        split at h
        · rename_i ie he
          split at h
          · rename_i hpp
            exact evBuildS_ok ho (htb t i ht) hk (htb e ie he) hpp h
          · cases h
        · cases h
      · cases h
    · cases h
  case h_6 c a b ho => exact evPick_ok ho h hob
  case h_7 t a ho =>
    split at h
    · rename_i i ht
      split at h
      · rename_i r' hr
        simp only [Option.some.injEq] at h
        subst h
        exact evTake_ok ho (htb t i ht) hr hob
      · exact hp (by rw [ho]; simp only [evp, ht]) h
    · cases h
  case h_8 c ho =>
    split at h
    · rename_i hcal
      split at h
      · rename_i x y t t' hargs hts
        split at h
        · rename_i htt
          have htt := Nat.eq_of_beq_eq_true htt
          subst htt
          split at h
          · rename_i i ht
            split at h
            · rename_i e hk
              split at h
              · rename_i ie he
                split at h
                · rename_i hc
                  simp only [Bool.and_eq_true, Nat.ble_eq] at hc
                  have hceq : o.op = .call ⟨.builtin .append, #[x, y], #[t, t]⟩ := by
                    rw [ho]
                    congr 1
                    obtain ⟨cal, args, ats⟩ := c
                    simp only at hcal hargs hts
                    subst hcal
                    congr
                    · apply Array.ext'; simpa using hargs
                    · apply Array.ext'; simpa using hts
                  exact evApp_ok hceq (htb t i ht) hk (htb e ie he) (Nat.eq_of_beq_eq_true hc.1) hc.2 h hob
                · split at h
                  · rename_i hc
                    simp only [Bool.and_eq_true, Nat.ble_eq] at hc
                    have hceq : o.op = .call ⟨.builtin .append, #[x, y], #[t, t]⟩ := by
                      rw [ho]
                      congr 1
                      obtain ⟨cal, args, ats⟩ := c
                      simp only at hcal hargs hts
                      subst hcal
                      congr
                      · apply Array.ext'; simpa using hargs
                      · apply Array.ext'; simpa using hts
                    exact evAppS_ok hceq (htb t i ht) hk (htb e ie he) hc.1 hc.2 h hob
                  · cases h
              · cases h
            · cases h
          · cases h
        · cases h
      · cases h
    · exact hp (by rw [ho]) h
  case h_9 => exact hp rfl h
end
end Go.Proofs.Ytbcghiagomkadaa.Cal
namespace Go.Proofs.Ytbcghiagomkadaa.Cal
open Go
def ltK (κ : Nat) : Nat → Bool := fun k => Nat.blt k κ
def mkL : List AV → AV
  | [] => .nil
  | h :: t => .cons h (mkL t)
def lsOf : AV → List AV
  | .cons h t => h :: lsOf t
  | _ => []
/-- What a call of f comes to: from arguments and resources that fit, it returns a value and resources as Q says. Its keys are those below κ. -/
def FCall (P : Program) (f : Nat) (κ : Nat) (args : List AV) (rin : Rs) (Q : AV → (Nat → Bool) → Rs → Prop) : Prop :=
  ∀ (K Z : Nat → Prop) (ν : Nat → Value) (w : World) (vals : Array Value), (∀ k, (ν k).oneCell' = true) → R Z w (mkL args) ν true vals.toList → men (ltK κ) (mkL args) = true → GoodRs K Z w ν (ltK κ) rin → (∀ b, Z b → K b) → (∀ b, K b → b < w.heap.size) →
    Calls P f vals w fun e w' => ∃ (y : Value) (Z' : Nat → Prop) (ν' : Nat → Value) (v : AV) (μ' : Nat → Bool) (rs' : Rs), e = .returned y ∧ Step K Z w Z' w' ∧ (∀ k, (ν' k).oneCell' = true) ∧ (∀ k, k < κ → ν' k = ν k) ∧ (∀ k, k < κ → μ' k = true) ∧
      R Z' w' v ν' true [y] ∧ men μ' v = true ∧ GoodRs (un K Z') Z' w' ν' μ' rs' ∧ (∀ b, Z' b → b < w'.heap.size) ∧ Q v μ' rs'
/-- The same of a call that may panic; what was handed to it is lost then, the rest stays. -/
def FCallP (P : Program) (f : Nat) (κ : Nat) (args : List AV) (rin : Rs) (E : List PanicEntry → Prop) (Q : AV → (Nat → Bool) → Rs → Prop) : Prop :=
  ∀ (K Z : Nat → Prop) (ν : Nat → Value) (w : World) (vals : Array Value), (∀ k, (ν k).oneCell' = true) → R Z w (mkL args) ν true vals.toList → men (ltK κ) (mkL args) = true → GoodRs K Z w ν (ltK κ) rin → (∀ b, Z b → K b) → (∀ b, K b → b < w.heap.size) →
    Calls P f vals w fun e w' => (∃ (y : Value) (Z' : Nat → Prop) (ν' : Nat → Value) (v : AV) (μ' : Nat → Bool) (rs' : Rs), e = .returned y ∧ Step K Z w Z' w' ∧ (∀ k, (ν' k).oneCell' = true) ∧ (∀ k, k < κ → ν' k = ν k) ∧ (∀ k, k < κ → μ' k = true) ∧
      R Z' w' v ν' true [y] ∧ men μ' v = true ∧ GoodRs (un K Z') Z' w' ν' μ' rs' ∧ (∀ b, Z' b → b < w'.heap.size) ∧ Q v μ' rs') ∨ ∃ c, E c ∧ e = .panicked c ∧ Step K Z w Z w'
structure SR where
  ob : Prop
  val : AV
  wr : Option Blk
abbrev Spec := List AV → Option SR
def Plain (P : Program) (f : Nat) : Prop := ∃ fn, P.funcs[f]? = some fn ∧ (fn.name == "runtime.NumGoroutine") = false ∧ fn.body.isNone = false
/-- It names no key. -/
def freeP : Blk → Prop
  | .avs _ n f => ∀ j, j < n → men noK (f j) = true
  | _ => True
/-- A function's contract, as a table of what its arguments give. -/
def FSpec (P : Program) (f : Nat) (S : Spec) : Prop :=
  Plain P f ∧ ∀ args r, S args = some r → r.ob → men noK (mkL args) = true → FCall P f 0 args (fun _ => none) fun v μ rs => v = r.val ∧ ∀ B, r.wr = some B → μ 0 = true ∧ rs 0 = some B ∧ freeP B
/-! ### What is lent to a call -/
/-- It does not lean on memory that nobody writes. -/
def zfree : AV → Bool
  | .roI _ => false
  | .roB _ => false
  | .roII _ => false
  | .ro _ _ _ => false
  | .rop _ => false
  | .agg l => zfree l
  | .tup l => zfree l
  | .cons h t => zfree h && zfree t
  | .fn _ c => zfree c
  | .whn _ u => zfree u
  | _ => true
def zfreeB : Blk → Bool
  | .ints _ => true
  | .bools _ => true
  | .rows _ => true
  | _ => false
def freeB : Blk → Bool
  | .ints _ => true
  | .bools _ => true
  | .rows _ => true
  | .rowsR _ => true
  | .avs _ _ _ => true
  | _ => false
theorem R_zfree {Z Z' : Nat → Prop} {w : World} : ∀ {u : AV} {ν : Nat → Value} {m : Bool} {cs : List Value}, zfree u = true → R Z w u ν m cs → R Z' w u ν m cs := by
  intro u
  induction u with
  | agg l ih => intro ν m cs hz h; cases m with
    | true => obtain ⟨es, e, r⟩ := h; exact ⟨es, e, ih hz r⟩
    | false => exact ih (m := true) hz h
  | tup l ih => intro ν m cs hz h; obtain ⟨es, e, r⟩ := h; exact ⟨es, e, ih hz r⟩
  | cons a b ih1 ih2 => intro ν m cs hz h; simp only [zfree, Bool.and_eq_true] at hz; obtain ⟨v, vs, e, r1, r2⟩ := h; exact ⟨v, vs, e, ih1 hz.1 r1, ih2 hz.2 r2⟩
  | fn f c ih => intro ν m cs hz h; obtain ⟨vs, e, r⟩ := h; exact ⟨vs, e, ih hz r⟩
  | whn g u ih => intro ν m cs hz h; exact ⟨fun hg => ih hz (h.1 hg), h.2⟩
  | roI _ => intro ν m cs hz; cases hz
  | roB _ => intro ν m cs hz; cases hz
  | roII _ => intro ν m cs hz; cases hz
  | ro _ _ _ _ => intro ν m cs hz; cases hz
  | rop _ _ => intro ν m cs hz; cases hz
  | _ => intro ν m cs hz h; exact h
theorem sat_zfree {Z Z' : Nat → Prop} {w : World} {ν : Nat → Value} {x : Value} {F : Nat → Prop} {B : Blk} (hz : zfreeB B = true) (h : sat Z w ν x F B) : sat Z' w ν x F B := by
  cases B <;> first | exact h | cases hz
def anyL : Nat → AV
  | 0 => .nil
  | n + 1 => .cons .any (anyL n)
/-- A thing that names no key, or nothing said of it. -/
def gua (sz : Nat) (u : AV) : AV := match men noK u with | true => u | false => .agg (anyL sz)
theorem Zhb {Z : Nat → Prop} {w : World} {ν : Nat → Value} : ∀ {n : Nat} {cs : List Value}, cs.length = n → R Z w (anyL n) ν true cs ∧ men noK (anyL n) = true
  | 0, [], _ => ⟨rfl, rfl⟩
  | n + 1, v :: vs, h => by
    obtain ⟨h1, h2⟩ := Zhb (Z := Z) (w := w) (ν := ν) (n := n) (cs := vs) (by simpa using h)
    exact ⟨⟨v, vs, rfl, ⟨v, rfl⟩, h1⟩, by show (men noK .any && men noK (anyL n)) = true; rw [h2]; rfl⟩
theorem gua_ok {Z Zc : Nat → Prop} (hZ : ∀ b, Z b → Zc b) {w : World} {ν : Nat → Value} {sz : Nat} {u : AV} {cs : List Value} (hl : cs.length = sz) (h : R Z w u ν false cs) : men noK (gua sz u) = true ∧ R Zc w (gua sz u) nu0 false cs := by
  unfold gua
  cases hm : men noK u with
  | true => exact ⟨hm, Zcl hm (Zbk hZ (fun _ _ => rfl) h)⟩
  | false => exact ⟨(Zhb (Z := Zc) (w := w) (ν := nu0) hl).2, (Zhb hl).1⟩
/-- An argument as its callee sees it: a slice of the caller's own is lent. -/
def viewA (l : List (Nat × Option Blk)) : AV → Option (AV × List (Nat × Blk))
  | .own k => match lkr l k with
    | some (.ints xs) => some (.roI xs, [(k, .ints xs)])
    | some (.bools xs) => some (.roB xs, [(k, .bools xs)])
    | some (.rowsR xs) => some (.roII xs, [(k, .rowsR xs)])
    | some (.avs sz n f) => some (.ro sz n (fun j => gua sz (f j)), [(k, .avs sz n f)])
    | _ => none
  | .agg a => match viewA l a with
    | some (a', rd) => some (.agg a', rd)
    | none => none
  | .cons a b => match viewA l a with
    | some (a', rd) => match viewA l b with
      | some (b', rd') => some (.cons a' b', rd ++ rd')
      | none => none
    | none => none
  | .nil => some (.nil, [])
  | u => if men noK u then some (u, []) else none
theorem Zc7 {Z : Nat → Prop} {w : World} {x : Value} {sz n : Nat} {g : Nat → List Value → Prop} {F : Nat → Prop} (h : row w x sz n g F) (hF : ∀ y, F y → Z y) : roRow Z w sz n g [x] := by
  rcases h with ⟨h0, h1, _⟩ | ⟨b, o, cap, cells, T, hx, h1, h2, hh, _, hFb, hc⟩
  · subst h1; exact ⟨none, 0, by rw [h0], Nat.le_refl _, Nat.zero_le _, fun h => absurd h (Nat.lt_irrefl 0)⟩
  · exact ⟨_, cap, by rw [hx], h1, h2, fun hn => ⟨b, o, rfl, hF b ((hFb b).2 rfl), fun j hj => by
      obtain ⟨es, e1, e2, e3⟩ := hc j hj
      exact ⟨es, e1, e2, fun i c hi => Zcx hh (e3 i c hi)⟩⟩⟩
theorem view_ok {l : List (Nat × Option Blk)} {Z Zc : Nat → Prop} {w : World} {ν : Nat → Value} {rs : Rs} {Ft : Nat → Nat → Prop} (hZ : ∀ b, Z b → Zc b) (hs : ∀ k b, rs k = some b → sat Z w ν (ν k) (Ft k) b) :
    ∀ {u u' : AV} {rd : List (Nat × Blk)} {m : Bool} {cs : List Value}, viewA l u = some (u', rd) → (∀ p, p ∈ rd → rs p.1 = some p.2) → (∀ p, p ∈ rd → ∀ y, Ft p.1 y → Zc y) → R Z w u ν m cs → R Zc w u' nu0 m cs ∧ men noK u' = true ∧ RdIn l rd := by
  intro u
  have plain : ∀ {u u' : AV} {rd : List (Nat × Blk)} {m : Bool} {cs : List Value}, (if men noK u then some (u, []) else none) = some (u', rd) → R Z w u ν m cs → R Zc w u' nu0 m cs ∧ men noK u' = true ∧ RdIn l rd := by
    intro u u' rd m cs h hr
    split at h
    · rename_i hm
      simp only [Option.some.injEq, Prod.mk.injEq] at h
      obtain ⟨rfl, rfl⟩ := h
      exact ⟨Zcl hm (Zbk hZ (fun _ _ => rfl) hr), hm, Za7⟩
    · cases h
  induction u with
  | own k =>
    intro u' rd m cs h hrd hF hr
    rw [show cs = [ν k] from hr]
    unfold viewA at h
    split at h
    · rename_i xs hk
      simp only [Option.some.injEq, Prod.mk.injEq] at h
      obtain ⟨rfl, rfl⟩ := h
      exact ⟨Zc7 (g := intAt xs) (hs k _ (hrd (k, .ints xs) (by simp))) (hF (k, .ints xs) (by simp)), rfl, Za9 hk⟩
    · rename_i xs hk
      simp only [Option.some.injEq, Prod.mk.injEq] at h
      obtain ⟨rfl, rfl⟩ := h
      exact ⟨Zc7 (g := boolAt xs) (hs k _ (hrd (k, .bools xs) (by simp))) (hF (k, .bools xs) (by simp)), rfl, Za9 hk⟩
    · rename_i xs hk
      simp only [Option.some.injEq, Prod.mk.injEq] at h
      obtain ⟨rfl, rfl⟩ := h
      exact ⟨Zbf (fun _ h => h) (fun _ _ => rfl) (fun _ _ _ h => Zbf hZ (fun _ _ => rfl) (fun _ _ _ h => h) h) (Zc7 (hs k _ (hrd (k, .rowsR xs) (by simp))) (hF (k, .rowsR xs) (by simp))), rfl, Za9 hk⟩
    · rename_i sz n f hk
      simp only [Option.some.injEq, Prod.mk.injEq] at h
      obtain ⟨rfl, rfl⟩ := h
      obtain ⟨A, cap, e0, c1, c2, c3⟩ := Zc7 (hs k _ (hrd (k, .avs sz n f) (by simp))) (hF (k, .avs sz n f) (by simp))
      refine ⟨⟨A, cap, e0, c1, c2, fun hn => ?_⟩, rfl, Za9 hk⟩
      obtain ⟨b, o, e1, e2, e3⟩ := c3 hn
      exact ⟨b, o, e1, e2, fun j hj => by
        obtain ⟨es, f1, f2, f3⟩ := e3 j hj
        exact ⟨es, gua_ok hZ f2 f1, f2, f3⟩⟩
    · cases h
  | agg a ih =>
    intro u' rd m cs h hrd hF hr
    simp only [viewA] at h
    split at h
    · rename_i a' rd' ha
      simp only [Option.some.injEq, Prod.mk.injEq] at h
      obtain ⟨rfl, rfl⟩ := h
      cases m with
      | true => obtain ⟨es, e, r⟩ := hr; obtain ⟨r1, r2, r3⟩ := ih ha hrd hF r; exact ⟨⟨es, e, r1⟩, r2, r3⟩
      | false => obtain ⟨r1, r2, r3⟩ := ih (m := true) ha hrd hF hr; exact ⟨r1, r2, r3⟩
    · cases h
  | cons a b ih1 ih2 =>
    intro u' rd m cs h hrd hF hr
    simp only [viewA] at h
    split at h
    · rename_i a' rd1 ha
      split at h
      · rename_i b' rd2 hb
        simp only [Option.some.injEq, Prod.mk.injEq] at h
        obtain ⟨rfl, rfl⟩ := h
        obtain ⟨v, vs, e, r1, r2⟩ := hr
        obtain ⟨p1, p2, p3⟩ := ih1 ha (fun p hp => hrd p (List.mem_append_left _ hp)) (fun p hp => hF p (List.mem_append_left _ hp)) r1
        obtain ⟨q1, q2, q3⟩ := ih2 hb (fun p hp => hrd p (List.mem_append_right _ hp)) (fun p hp => hF p (List.mem_append_right _ hp)) r2
        refine ⟨⟨v, vs, e, p1, q1⟩, by simp only [men, p2, q2]; rfl, fun p hp => ?_⟩
        rcases List.mem_append.1 hp with h | h
        · exact p3 p h
        · exact q3 p h
      · cases h
    · cases h
  | nil =>
    intro u' rd m cs h hrd hF hr
    simp only [viewA, Option.some.injEq, Prod.mk.injEq] at h
    obtain ⟨rfl, rfl⟩ := h
    exact ⟨hr, rfl, Za7⟩
  | _ => intro u' rd m cs h hrd hF hr; exact plain h hr
theorem view_rd {l : List (Nat × Option Blk)} : ∀ {u u' : AV} {rd : List (Nat × Blk)}, viewA l u = some (u', rd) → RdIn l rd := by
  intro u
  induction u with
  | own k =>
    intro u' rd h
    unfold viewA at h
    (repeat' split at h) <;> first | (cases h; done) | (simp only [Option.some.injEq, Prod.mk.injEq] at h; obtain ⟨_, rfl⟩ := h; exact Za9 (by assumption))
  | agg a ih =>
    intro u' rd h
    simp only [viewA] at h
    split at h
    · rename_i a' rd' ha
      simp only [Option.some.injEq, Prod.mk.injEq] at h; obtain ⟨_, rfl⟩ := h; exact ih ha
    · cases h
  | cons a b ih1 ih2 =>
    intro u' rd h
    simp only [viewA] at h
    split at h
    · rename_i a' rd1 ha
      split at h
      · rename_i b' rd2 hb
        simp only [Option.some.injEq, Prod.mk.injEq] at h
        obtain ⟨_, rfl⟩ := h
        intro p hp
        rcases List.mem_append.1 hp with h | h
        · exact ih1 ha p h
        · exact ih2 hb p h
      · cases h
    · cases h
  | nil => intro u' rd h; simp only [viewA, Option.some.injEq, Prod.mk.injEq] at h; obtain ⟨_, rfl⟩ := h; exact Za7
  | _ => intro u' rd h; simp only [viewA] at h; split at h
         · simp only [Option.some.injEq, Prod.mk.injEq] at h; obtain ⟨_, rfl⟩ := h; exact Za7
         · cases h
def isOne : Nat → Bool := fun k => Nat.beq k 0
/-- The answer of a contract, in its caller's keys. -/
def ofSR (kn : Nat) (rd : List (Nat × Blk)) (r : SR) : Option EvR :=
  match r.wr with
  | none => if men noK r.val && (rd.isEmpty || zfree r.val) then some ⟨r.val, rd, [], none, r.ob⟩ else none
  | some B => if men isOne r.val && freeB B && (rd.isEmpty || (zfree r.val && zfreeB B)) then some ⟨ren (fun _ => kn) r.val, rd, [(kn, some B)], some kn, r.ob⟩ else none
theorem Zcp {P : Program} {ro : Option Nat} {n f : Nat} {args : Array Value} {w : World} {R : Ending → World → Prop} (h : Calls P f args w R) : CallsIn (FF ro) n P f args w R :=
  ⟨trivial, (callsIn_wide (n := n).2 h).2⟩
theorem Zgc : ∀ {u : AV}, properL u = true → mkL (lsOf u) = u := by
  intro u
  induction u with
  | cons a b _ ih => intro h; simp only [lsOf, mkL]; rw [ih h]
  | nil => intro _; rfl
  | _ => intro h; cases h
section
variable {P : Program} {ro : Option Nat} {N : Nat} {ops : Array Oper}
theorem Good.setd {K Z : Nat → Prop} {w : World} {ν : Nat → Value} {σ : St} {a : Act} {o : Option Nat} {v : AV} {y : Value} (hg : Good K Z N w ν σ a) (ho : ∀ d, o = some d → d < N) (hr : R Z w v ν true [y]) (hm : men σ.mu v = true) :
    Good K Z N w ν { σ with env := putO σ.env o v } (a.put o y) := by
  cases o with
  | none => exact hg
  | some d =>
    have hd := ho d rfl
    refine ⟨by simp [Act.put, hg.size], hg.one, fun s => ?_, hg.rs, hg.zk, hg.kl, hg.ds, hg.ml⟩
    by_cases hs : s = d
    · subst hs
      show men σ.mu (put σ.env s v s) = true ∧ R Z w (put σ.env s v s) ν true [_]
      rw [Zgw]
      have : (a.tmps.setIfInBounds s y).getD s undef = y := by
        simp [Array.getD_eq_getD_getElem?, hg.size, hd]
      exact ⟨hm, by show R Z w v ν true [(a.tmps.setIfInBounds s y).getD s undef]; rw [this]; exact hr⟩
    · show men σ.mu (put σ.env d v s) = true ∧ R Z w (put σ.env d v s) ν true [_]
      rw [Zfh hs]
      have : (a.tmps.setIfInBounds d y).getD s undef = a.tmps.getD s undef := by
        simp [Array.getD_eq_getD_getElem?, Array.getElem?_setIfInBounds, Ne.symm hs]
      exact ⟨(hg.env s).1, by show R Z w (σ.env s) ν true [(a.tmps.setIfInBounds d y).getD s undef]; rw [this]; exact (hg.env s).2⟩
/-- The state after an operation, whatever its world is. -/
theorem Good.next {K Z : Nat → Prop} {w : World} {ν : Nat → Value} {σ : St} {a : Act} (hg : Good K Z N w ν σ a) {it : Item} (hf : Fits N it σ) {Z' : Nat → Prop} {w' : World} {ν' : Nat → Value} {y : Value} (hs : Step K Z w Z' w') (hν : ∀ k, σ.mu k = true → ν' k = ν k) (h1 : ∀ k, (ν' k).oneCell' = true)
    (hrs : GoodRs (un K Z') Z' w' ν' (addK σ.mu it.kn) (updL σ.rs it.wr)) (hr : R Z' w' it.val ν' true [y]) (hm : men (addK σ.mu it.kn) it.val = true) (hz : ∀ b, Z' b → b < w'.heap.size) : Good (un K Z') Z' N w' ν' (it.app σ) (a.put it.dst y) := by
  have hgood : Good (un K Z') Z' N w' ν' { mu := addK σ.mu it.kn, env := σ.env, rs := updL σ.rs it.wr, ms := σ.ms } a := by
    refine ⟨hg.size, h1, fun s => ⟨Zc2 Zby (hg.env s).1, R_nu hν (hg.env s).1 (Zbk hs.le (fun b hb => hs.ext.block b (hg.zk b hb)) (hg.env s).2)⟩, hrs, fun b hb => .inr hb, fun b hb => ?_, ?_, fun k hk => Zby k (hg.ml k hk)⟩
    · rcases hb with h | h
      · exact Nat.lt_of_lt_of_le (hg.kl b h) hs.ext.size
      · exact hz b h
    · rw [hg.ds]
      exact fmC fun k hk => by rw [hν k (hg.ml k hk)]
  exact Good.setd hgood hf.dst hr hm
theorem Zb9 {o : Oper} (h : ∀ c, o.op ≠ .defer c) (ev : Operand → Value) : o.semAt (FF ro).round ev = execOp ev o := Oper.semAt_eq _ _ _ h
end
end Go.Proofs.Ytbcghiagomkadaa.Cal
namespace Go.Proofs.Ytbcghiagomkadaa.Cal
open Go
def Does (P : Program) (ro : Option Nat) (o : Oper) (get : Operand → AV) (val : AV) (rd : List (Nat × Blk)) (wr : List (Nat × Option Blk)) (kn : Option Nat) : Prop :=
  ∀ (n : Nat) (K Z : Nat → Prop) (ν : Nat → Value) (w : World) (a : Act) (μ : Nat → Bool) (rs : Rs), (∀ k, (ν k).oneCell' = true) → GoodRs K Z w ν μ rs → (∀ b, Z b → K b) → (∀ b, K b → b < w.heap.size) →
    (∀ x, x ∈ o.op.operands → R Z w (get x) ν true [a.eval x] ∧ men μ (get x) = true) → (∀ p, p ∈ rd → rs p.1 = some p.2) → (∀ k, kn = some k → μ k = false) →
    ∀ (next : Act → World → Prop) (Q : Exit → Act → World → Prop),
      (∀ (y : Value) (Z' : Nat → Prop) (ν' : Nat → Value) (w' : World), Step K Z w Z' w' → (∀ k, μ k = true → ν' k = ν k) → (∀ k, (ν' k).oneCell' = true) → GoodRs (un K Z') Z' w' ν' (addK μ kn) (updL rs wr) → R Z' w' val ν' true [y] → men (addK μ kn) val = true → (∀ b, Z' b → b < w'.heap.size) → next (a.put o.dst y) w') →
      o.uponIn (FF ro) n P a next Q ((o.semAt (FF ro).round a.eval).run P w)
section
variable {P : Program} {ro : Option Nat} {N : Nat} {ops : Array Oper}
theorem Zcf {o : Oper} {get : Operand → AV} {val : AV} {rd : List (Nat × Blk)} {wr : List (Nat × Option Blk)} {kn : Option Nat} (hnd : ∀ c, o.op ≠ .defer c) (hs : OpSem P o get val rd wr kn) : Does P ro o get val rd wr kn := by
  intro n K Z ν w a μ rs h1 hg hzk hkl hx hrd hkn next Q hnext
  rw [Zb9 hnd]
  obtain ⟨y, w', ν', Z', hrun, hstep, hν, h1', hrs, hr, hm, hz⟩ := hs.sem K Z ν w a.eval μ rs h1 hg hzk hkl hx hrd hkn
  have hG := hnext y Z' ν' w' hstep hν h1' hrs hr hm hz
  rcases hrun with hrun | ⟨hrun, rfl⟩
  · rw [hrun]; exact hG
  · rw [hrun]; exact hG
theorem men_one {μ : Nat → Bool} {u : AV} {kn : Nat} (hk : μ kn = true) (h : men isOne u = true) : men μ (ren (fun _ => kn) u) = true := by
  induction u with
  | own k => exact hk
  | adr k _ _ _ => exact hk
  | yld k => exact hk
  | agg l ih => exact ih h
  | tup l ih => exact ih h
  | fn f c ih => exact ih h
  | whn g u ih => cases g with
    | true => exact ih h
    | false => rfl
  | cons a b ih1 ih2 => simp only [men, Bool.and_eq_true] at h; simp only [men, ren, ih1 h.1, ih2 h.2]; rfl
  | _ => rfl
theorem menB_free {μ : Nat → Bool} {B : Blk} (h : freeB B = true) (hp : freeP B) : menB μ B := by cases B <;> first | exact trivial | exact fun j hj => Zbr (hp j hj) | cases h
theorem Zf5 {Z : Nat → Prop} {w : World} {ν ν' : Nat → Value} {x : Value} {F : Nat → Prop} {B : Blk} (hf : freeB B = true) (hp : freeP B) (h : sat Z w ν x F B) : sat Z w ν' x F B := by
  cases B with
  | avs sz n f => exact Za8 (fun _ _ => rfl) (fun j _ hj h => Zcl (hp j hj) h) h
  | rowsR xss => exact Za8 (fun _ _ => rfl) (fun _ _ _ h => Zcl rfl h) h
  | _ => first | exact h | cases hf
/-- A call of a function of the program. -/
theorem does_call {o : Oper} {get : Operand → AV} {x : Operand} {xs : List Operand} {ts : Array TypeId} {f kn : Nat} {caps a' : AV} {S : Spec} {r : SR} {rd : List (Nat × Blk)} {r' : EvR} {l : List (Nat × Option Blk)}
    (ho : o.op = .call ⟨.value x, xs.toArray, ts⟩) (hf : get x = .fn f caps) (hpc : properL caps = true) (hv : viewA l (appL (ofL get xs) caps) = some (a', rd)) (hS : FSpec P f S) (hr : S (lsOf a') = some r) (hof : ofSR kn rd r = some r') (hob : r.ob) :
    Does P ro o get r'.val rd r'.wr r'.kn := by
  have hpa : properL a' = true := by
    have hp : properL (appL (ofL get xs) caps) = true := by
      refine Zd8 ?_ hpc
      clear hv ho
      induction xs with
      | nil => rfl
      | cons x xs ih => exact ih
    have pv : ∀ {u u' : AV} {rd : List (Nat × Blk)}, properL u = true → viewA l u = some (u', rd) → properL u' = true := by
      intro u
      induction u with
      | cons a b _ ih =>
        intro u' rd hp h
        simp only [viewA] at h
        split at h
        · split at h
          · rename_i b' rd2 hb
            simp only [Option.some.injEq, Prod.mk.injEq] at h
            obtain ⟨rfl, rfl⟩ := h
            show properL b' = true
            exact ih hp hb
          · cases h
        · cases h
      | nil => intro u' rd _ h; simp only [viewA, Option.some.injEq, Prod.mk.injEq] at h; obtain ⟨rfl, rfl⟩ := h; rfl
      | _ => intro u' rd hp; cases hp
    exact pv hp hv
  intro n K Z ν w a μ rs h1 hg hzk hkl hx hrd hkn next Q hnext
  obtain ⟨⟨fn, hfn, hname, hbody⟩, hS⟩ := hS
  obtain ⟨rf, mf⟩ := hx x (by rw [ho]; simp [Op.operands, Call.operands])
  rw [hf] at rf
  obtain ⟨cv, ecv, rcv⟩ := rf
  have ecv := one1 ecv
  have hargs : R Z w (ofL get xs) ν true (xs.map a.eval) ∧ men μ (ofL get xs) = true := Zft xs fun y hy => hx y (by rw [ho]; simp [Op.operands, Call.operands]; exact .inr hy)
  have hpl : properL (ofL get xs) = true := by
    clear hv ho hargs hx
    induction xs with
    | nil => rfl
    | cons x xs ih => exact ih
  have hall : R Z w (appL (ofL get xs) caps) ν true (xs.map a.eval ++ cv) := Zhp hpl hargs.1 rcv
  obtain ⟨Ft, hF⟩ := id hg
  let Fb : Nat → Prop := fun b => ∃ p, p ∈ rd ∧ Ft p.1 b
  let Kc : Nat → Prop := fun b => K b ∨ ∃ k B, rs k = some B ∧ Ft k b
  let Zc : Nat → Prop := fun b => Z b ∨ Fb b
  have hFb : ∀ b, Fb b → Kc b := fun b ⟨p, hp, hb⟩ => .inr ⟨p.1, p.2, hrd p hp, hb⟩
  have hKc : ∀ b, Kc b → b < w.heap.size := fun b hb => hb.elim (hkl b) fun ⟨k, B, hk, hb⟩ => ((hF k B hk).2.2.2.1 b hb).2
  have hFK : ∀ b, Fb b → ¬ K b := fun b ⟨p, hp, hb⟩ => ((hF p.1 p.2 (hrd p hp)).2.2.2.1 b hb).1
  obtain ⟨va, ma, _⟩ := view_ok (Zc := Zc) (rs := rs) (Ft := Ft) (fun b hb => .inl hb) (fun k b hk => (hF k b hk).2.2.1) hv hrd (fun p hp y hy => .inr ⟨p, hp, hy⟩) hall
  have hcall := hS (lsOf a') r hr hob (by rw [Zgc hpa]; exact ma) Kc Zc nu0 w (xs.map a.eval ++ cv).toArray (fun _ => rfl) (by rw [Zgc hpa]; exact va) (by rw [Zgc hpa]; exact Zbr ma) ⟨fun _ _ => False, fun k b hk => by cases hk⟩
    (fun b hb => hb.elim (fun h => .inl (hzk b h)) (hFb b)) hKc
  have hsem : (o.semAt (FF ro).round a.eval).run P w = .ok (.enter f (xs.map a.eval ++ cv).toArray) w := by
    rw [Zb9 (by rw [ho]; intro c hc; cases hc)]
    simp [execOp, ho, resolve, ecv, Deferred.ofValue, invoke, callFunc, hfn, Sem.run_bind, Result.andThen, Sem.run, program]
    have hname' : ¬ fn.name = "runtime.NumGoroutine" := by simpa using hname
    cases hb : fn.body with
    | none => rw [hb] at hbody; cases hbody
    | some c => simp [hname', hb, Sem.run]
  rw [hsem]
  refine ⟨(fun h => by cases h), CallsIn.mono (Zcp hcall) ?_⟩
  rintro e w' ⟨y, Z', ν', v, μ', rs', rfl, hstep, h1', _, _, hr', hm', hrs', hzs, rfl, hw⟩
  let Zn : Nat → Prop := fun b => Z' b ∧ ¬ Fb b
  have hold : ∀ b, Kc b → w'.heap[b]? = w.heap[b]? := hstep.ext.block
  have hZn : ∀ b, Zn b → Z b ∨ ¬ Kc b := fun b ⟨h, hn⟩ => by
    rcases hstep.new b h with (h | h) | h
    · exact .inl h
    · exact absurd h hn
    · exact .inr h
  have hst : Step K Z w Zn w' := ⟨⟨hstep.ext.os, hstep.ext.tape, hstep.ext.output, hstep.ext.size, fun b hb => hold b (.inl hb)⟩, fun b hb => ⟨hstep.le b (.inl hb), fun hf => hFK b hf (hzk b hb)⟩, fun b hb => (hZn b hb).imp id fun h hk => h (.inl hk)⟩
  have hZsame : rd = [] → Zn = Z' := fun h0 => by
    funext b
    simp only [Zn, eq_iff_iff, and_iff_left_iff_imp]
    rintro _ ⟨p, hp, _⟩
    rw [h0] at hp; cases hp
  have hfree : ∀ {k B}, rs k = some B → ∀ b, Ft k b → ¬ un K Zn b ∧ b < w'.heap.size := fun {k B} hk b hb => by
    refine ⟨?_, Nat.lt_of_lt_of_le ((hF k B hk).2.2.2.1 b hb).2 hstep.ext.size⟩
    rintro (h | h)
    · exact ((hF k B hk).2.2.2.1 b hb).1 h
    · rcases hZn b h with h2 | h2
      · exact ((hF k B hk).2.2.2.1 b hb).1 (hzk b h2)
      · exact h2 (.inr ⟨k, B, hk, hb⟩)
  unfold ofSR at hof
  split at hof
  · rename_i hwr
    split at hof
    · rename_i hc
      simp only [Option.some.injEq] at hof
      subst hof
      simp only [Bool.and_eq_true, Bool.or_eq_true, List.isEmpty_iff] at hc
      obtain ⟨c1, c2⟩ := hc
      refine hnext y Zn ν w' hst (fun _ _ => rfl) h1 ?_ ?_ (Zbr c1) (fun b hb => hzs b hb.1)
      · refine ⟨Ft, fun k B hk => ?_⟩
        obtain ⟨g1, g2, g3, g4, g5⟩ := hF k B hk
        exact ⟨g1, g2, Zbo (fun b hb => hst.le b hb) (fun b hb => hold b (.inl (hzk b hb))) (fun b hb => hold b (.inr ⟨k, B, hk, hb⟩)) g3, hfree hk, g5⟩
      · rcases c2 with c2 | c2
        · rw [hZsame c2]; exact Zcl c1 hr'
        · exact R_zfree c2 (Zcl c1 hr')
    · cases hof
  · rename_i B hwr
    split at hof
    · rename_i hc
      simp only [Option.some.injEq] at hof
      subst hof
      simp only [Bool.and_eq_true, Bool.or_eq_true, List.isEmpty_iff] at hc
      obtain ⟨⟨c1, c2⟩, c3⟩ := hc
      have hk2 := hkn kn rfl
      obtain ⟨hw1, hw2, hw3⟩ := hw B hwr
      obtain ⟨Fn, hFn⟩ := hrs'
      obtain ⟨f1, f2, f3, f4, f5⟩ := hFn 0 B hw2
      refine hnext y Zn (upN ν kn (ν' 0)) w' hst (Zb0 hk2) (Zcs h1 (h1' 0)) ?_ ?_ (men_one Zbx c1) (fun b hb => hzs b hb.1)
      · have hnew : ∀ k, k ≠ kn → updL rs [(kn, some B)] k = rs k := fun k hk => by
          have : lko [(kn, some B)] k = none := Zdy (by intro p hp; simp at hp; subst hp; exact Ne.symm hk)
          simp only [updL, this]
        have hnew2 : updL rs [(kn, some B)] kn = some B := by simp [updL, lko, Nat.beq_refl]
        refine ⟨fun k => if k = kn then Fn 0 else Ft k, fun k B' hk => ?_⟩
        by_cases hkk : k = kn
        · subst hkk
          rw [hnew2] at hk
          obtain rfl : B = B' := Option.some.inj hk
          dsimp only
          rw [if_pos rfl, upN_same]
          refine ⟨Zbx, menB_free c2 hw3, ?_, fun b hb => ⟨?_, (f4 b hb).2⟩, fun k' b' hne hk' b hb => ?_⟩
          · rcases c3 with c3 | c3
            · rw [hZsame c3]; exact Zf5 c2 hw3 f3
            · exact sat_zfree c3.2 (Zf5 c2 hw3 f3)
          · rintro (h | h)
            · exact (f4 b hb).1 (.inl (.inl h))
            · exact (f4 b hb).1 (.inr h.1)
          · rw [if_neg (Ne.symm hne)]
            rw [hnew k' (Ne.symm hne)] at hk'
            exact fun h => (f4 b hb).1 (.inl (.inr ⟨k', b', hk', h⟩))
        · rw [hnew k hkk] at hk
          obtain ⟨g1, g2, g3, g4, g5⟩ := hF k B' hk
          dsimp only
          rw [if_neg hkk, Zdj hkk]
          refine ⟨Zby k g1, Zcu Zby g2, Zbo (fun b hb => hst.le b hb) (fun b hb => hold b (.inl (hzk b hb))) (fun b hb => hold b (.inr ⟨k, B', hk, hb⟩)) (Zdi (Zb0 hk2) g2 g3), hfree hk, fun k' b' hne hk' b hb => ?_⟩
          by_cases hk3 : k' = kn
          · subst hk3
            rw [if_pos rfl]
            exact fun h => (f4 b h).1 (.inl (.inr ⟨k, B', hk, hb⟩))
          · rw [if_neg hk3]
            rw [hnew k' hk3] at hk'
            exact g5 k' b' hne hk' b hb
      · rw [R_ren]
        have hn : R Z' w' r.val (fun _ => upN ν kn (ν' 0) kn) true [y] := R_nu (μ := isOne) (fun k hk => by
          have := Nat.eq_of_beq_eq_true hk
          subst this
          rw [upN_same]) c1 hr'
        rcases c3 with c3 | c3
        · rw [hZsame c3]; exact hn
        · exact R_zfree c3.1 hn
    · cases hof
end
end Go.Proofs.Ytbcghiagomkadaa.Cal
