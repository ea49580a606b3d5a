/- The abstract machine: 'evP' is right. -/
import Derived.Test.YtnohmijdpmelpaaGreatAm9
set_option linter.unusedSectionVars false
set_option linter.unusedVariables false
set_option linter.unusedSimpArgs false
namespace Go.Am
open Go
variable [Tab]
variable {P : Program} {G : Gh} {w : World} {ρ : List Nat}

theorem Sp_full {G t a b n} : Sp G t a (.slice b n n) := by
  unfold Sp
  split
  · rename_i heq; injection heq with _ h1 h2; subst h1; subst h2; intro _ q h1 h2; omega
  · rename_i heq; injection heq with _ h1 h2; subst h1; subst h2; intro _ q h1 h2; omega
  · trivial
theorem slice_sound {t : TypeId} {x v : AV} {lo hi mx : Option AV} {c : Prop} {vx : Value} {rl rh rm : Option Value} (h : sliceE P t x lo hi mx = some (c, v)) (hc : c) (hx : VR G w ρ x vx)
    (hl : OptVR G w ρ lo rl) (hh : OptVR G w ρ hi rh) (hm : OptVR G w ρ mx rm) :
    ∃ v', (Instr.sliceAt t vx rl rh rm).run P w = .ok v' w ∧ VR G w ρ v v' ∧ ∀ T, SpV G T v v' := by
  unfold sliceE at h
  split at h
  · -- a string
    rename_i s hu
    cases rm with
    | some _ => exact hm.elim
    | none =>
      split at h
      · rename_i l h' e1 e2
        simp only [Option.some.injEq, Prod.mk.injEq] at h
        obtain ⟨rfl, rfl⟩ := h
        obtain ⟨h0, h1, h2⟩ := hc
        obtain rfl := hx.str_inv
        have hs : (ByteArray.mk s.toArray).size = s.length := by show s.toArray.size = _; simp
        have hb := bounds_none (P := P) (G := G) (w := w) (ρ := ρ) (b := false) (len := s.length) (cap := s.length) hl hh e1 e2 h0 h1 h2
        refine ⟨.string ⟨((s.take h'.toNat).drop l.toNat).toArray⟩, ?_, .str .., fun T => by simp [SpV, Sp]⟩
        have hext : (ByteArray.mk s.toArray).extract l.toNat h'.toNat = ⟨((s.take h'.toNat).drop l.toNat).toArray⟩ := by
          apply ByteArray.ext
          simp [ByteArray.data_extract, List.drop_take]
        simp only [Instr.sliceAt, Sem.run_bind, run_und hu, Result.andThen_ok, Instr.slice, Option.isSome, hs]
        simp [hb, hext]
      · simp at h
  · -- bytes
    rename_i e s o hu
    cases rm with
    | some _ => exact hm.elim
    | none =>
      split at h
      · rename_i l h' hz e1 e2
        simp only [Option.some.injEq, Prod.mk.injEq] at h
        obtain ⟨rfl, rfl⟩ := h
        obtain ⟨h0, h1, h2⟩ := hc
        obtain ⟨base, cap, rfl, hcap, hpart⟩ := VR.bs_part (o' := false) hx (show l.toNat ≤ h'.toNat by omega) (show h'.toNat ≤ s.length by omega)
        have hb := bounds_none (P := P) (G := G) (w := w) (ρ := ρ) (b := true) (len := s.length) (cap := cap) hl hh e1 e2 h0 h1 (by omega)
        refine ⟨_, ?_, hpart cap (by omega) (Nat.le_refl _), fun T => by simp [SpV, Sp]⟩
        simp only [Instr.sliceAt, Sem.run_bind, run_und hu, Result.andThen_ok, Instr.slice, hb, run_sizeOf hz, Sem.run_pure]
      · simp at h
  · -- elements
    rename_i e sz m el o hu
    cases rm with
    | some _ => exact hm.elim
    | none =>
      split at h
      · rename_i z l h' hz e1 e2
        simp only [cond_eq_ite] at h
        split at h
        · rename_i hq
          have hq := Nat.eq_of_beq_eq_true hq
          subst hq
          simp only [Option.some.injEq, Prod.mk.injEq] at h
          obtain ⟨rfl, rfl⟩ := h
          obtain ⟨h0, h1, h2⟩ := hc
          obtain ⟨base, cap, rfl, hcap, hpart⟩ := VR.slice_part (o' := false) hx (show l.toNat ≤ h'.toNat by omega) (show h'.toNat ≤ m by omega)
          have hb := bounds_none (P := P) (G := G) (w := w) (ρ := ρ) (b := true) (len := m) (cap := cap) hl hh e1 e2 h0 h1 (by omega)
          refine ⟨_, ?_, hpart cap (by omega) (Nat.le_refl _), fun T => by simp [SpV, Sp]⟩
          simp only [Instr.sliceAt, Sem.run_bind, run_und hu, Result.andThen_ok, Instr.slice, hb, run_sizeOf hz, Sem.run_pure]
        · simp at h
      · simp at h
  · -- a handle
    rename_i e id off m cp hu
    cases rm with
    | some _ => exact hm.elim
    | none =>
      split at h
      · rename_i z l h' hz e1 e2
        simp only [Option.some.injEq, Prod.mk.injEq] at h
        obtain ⟨rfl, rfl⟩ := h
        obtain ⟨h0, h1, h2, h3⟩ := hc
        obtain ⟨b, hr, rfl⟩ := hx.hs_inv
        have hb := bounds_none (P := P) (G := G) (w := w) (ρ := ρ) (b := true) (len := m) (cap := cp) hl hh e1 e2 h0 h2 h3
        refine ⟨.slice (some (mkA b (off + l.toNat * (z + 1)))) (h'.toNat - l.toNat) (cp - l.toNat), ?_, .hs _ _ _ _ _ _ hr, fun T => by simp [SpV, Sp]⟩
        simp only [Instr.sliceAt, Sem.run_bind, run_und hu, Result.andThen_ok, Instr.slice, hb, run_sizeOf hz, Sem.run_pure]
        rw [if_neg (by omega)]
        simp [mkA_add]
      · simp at h
  · -- an array
    rename_i m e id off hu
    cases rm with
    | some _ => exact hm.elim
    | none =>
      split at h
      · rename_i z l h' hz e1 e2
        simp only [Option.some.injEq, Prod.mk.injEq] at h
        obtain ⟨rfl, rfl⟩ := h
        obtain ⟨h0, h1, h2, h3⟩ := hc
        obtain ⟨b, hr, rfl⟩ := hx.ptr_inv
        have hb := bounds_none (P := P) (G := G) (w := w) (ρ := ρ) (b := false) (len := m) (cap := m) hl hh e1 e2 h0 h2 h3
        refine ⟨.slice (some (mkA b (off + l.toNat * (z + 1)))) (h'.toNat - l.toNat) (m - l.toNat), ?_, .hs _ _ _ _ _ _ hr, fun T => by simp [SpV, Sp]⟩
        simp only [Instr.sliceAt, Sem.run_bind, run_und hu, Result.andThen_ok, Instr.sureAddr, hb, run_sizeOf hz, Sem.run_pure]
        rw [if_neg (by omega)]
        simp [mkA_add]
      · simp at h
  · -- bytes, no room
    rename_i e s o k mx hu
    cases rm with
    | none => exact hm.elim
    | some rm =>
      obtain rfl := VR.int_inv hm
      split at h
      · rename_i l k2 h' hz e1
        simp only [Option.some.injEq, Prod.mk.injEq] at h
        obtain ⟨rfl, rfl⟩ := h
        obtain ⟨h0, h1, rfl, h2⟩ := hc
        cases rh with
        | none => exact hh.elim
        | some rh =>
          obtain rfl := VR.int_inv hh
          obtain ⟨base, cap, rfl, hcap, hpart⟩ := VR.bs_part (o' := true) hx (show l.toNat ≤ h'.toNat by omega) (show h'.toNat ≤ s.length by omega)
          have hb := bounds_max (P := P) (G := G) (w := w) (ρ := ρ) (b := true) (len := s.length) (cap := cap) (k := k2) (k2 := k) hl e1 h0 h1 (Int.le_refl _) (by omega)
          refine ⟨_, ?_, hpart h'.toNat (Nat.le_refl _) (by omega), fun T => SpV_of_Sp Sp_full (by simp)⟩
          simp only [Instr.sliceAt, Sem.run_bind, run_und hu, Result.andThen_ok, Instr.slice, hb, run_sizeOf hz, Sem.run_pure]
      · simp at h
  · rename_i e sz m el o k mx hu
    cases rm with
    | none => exact hm.elim
    | some rm =>
      obtain rfl := VR.int_inv hm
      split at h
      · rename_i z l k2 h' hz e1
        simp only [cond_eq_ite] at h
        split at h
        · rename_i hq
          have hq := Nat.eq_of_beq_eq_true hq
          subst hq
          simp only [Option.some.injEq, Prod.mk.injEq] at h
          obtain ⟨rfl, rfl⟩ := h
          obtain ⟨h0, h1, rfl, h2⟩ := hc
          cases rh with
          | none => exact hh.elim
          | some rh =>
            obtain rfl := VR.int_inv hh
            obtain ⟨base, cap, rfl, hcap, hpart⟩ := VR.slice_part (o' := true) hx (show l.toNat ≤ h'.toNat by omega) (show h'.toNat ≤ m by omega)
            have hb := bounds_max (P := P) (G := G) (w := w) (ρ := ρ) (b := true) (len := m) (cap := cap) (k := k2) (k2 := k) hl e1 h0 h1 (Int.le_refl _) (by omega)
            refine ⟨_, ?_, hpart h'.toNat (Nat.le_refl _) (by omega), fun T => SpV_of_Sp Sp_full (by simp)⟩
            simp only [Instr.sliceAt, Sem.run_bind, run_und hu, Result.andThen_ok, Instr.slice, hb, run_sizeOf hz, Sem.run_pure]
        · simp at h
      · simp at h
  · simp at h
end Go.Am
