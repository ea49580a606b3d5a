/- The abstract machine: 'evP', all pure operations in one. -/
import Derived.Test.YtnohmijdpmelpaaGreatAm6
set_option linter.unusedSectionVars false
set_option linter.unusedVariables false
set_option linter.unusedSimpArgs false
namespace Go.Am
open Go
variable [Tab]
variable {P : Program} {G : Gh} {w : World} {ρ : List Nat}

theorem index_sound {t : TypeId} {x i v : AV} {c : Prop} {vx vi : Value} (h : indexE P t x i = some (c, v)) (hc : c) (hx : VR G w ρ x vx) (hi : VR G w ρ i vi) :
    ∃ v', (Instr.index t vx vi).run P w = .ok v' w ∧ VR G w ρ v v' := by
  unfold indexE at h
  split at h
  · rename_i s k j hu
    simp only [Option.some.injEq, Prod.mk.injEq] at h
    obtain ⟨rfl, rfl⟩ := h
    obtain rfl := hx.str_inv
    obtain rfl := hi.int_inv
    obtain ⟨h0, h1⟩ := hc
    have hlt : j.toNat < s.length := by omega
    have e : (ByteArray.mk s.toArray)[j.toNat]? = some (s.getD j.toNat 0) := by
      have hs : j.toNat < (ByteArray.mk s.toArray).size := by show _ < s.toArray.size; simpa using hlt
      have e2 : s.getD j.toNat 0 = s[j.toNat] := by simp [List.getD_eq_getElem?_getD, List.getElem?_eq_getElem hlt]
      rw [getElem?_pos (ByteArray.mk s.toArray) j.toNat hs, e2]
      rfl
    refine ⟨_, ?_, .int ..⟩
    simp only [Instr.index, asIntOf, Sem.run_bind, Sem.run_pure, Result.andThen_ok, run_und hu, h0, if_true, e]
  · rename_i m e cs k j hu
    split at h
    · rename_i ha hs
      simp only [Option.some.injEq, Prod.mk.injEq] at h
      obtain ⟨rfl, rfl⟩ := h
      obtain ⟨h0, h1, h2⟩ := hc
      obtain ⟨vs, rfl, hl, hv⟩ := hx.agg_inv
      obtain rfl := hi.int_inv
      have hlt : j.toNat < cs.length := by omega
      have := part_sound (P := P) (G := G) (w := w) (ρ := ρ) (t := e) (cs := cs) (vs := vs) (off := j.toNat) (v := un (cs.getD j.toNat .bad))
        (by simp [partE, ha, hs, List.getD_eq_getElem?_getD, List.getElem?_eq_getElem hlt]) ⟨hl, hv⟩
      obtain ⟨v', hr, hv'⟩ := this
      refine ⟨v', ?_, hv'⟩
      have hb : 0 ≤ j ∧ j < (m : Int) := ⟨h0, by omega⟩
      simp only [Instr.index, asIntOf, Sem.run_bind, Sem.run_pure, Result.andThen_ok, run_und hu, if_pos hb, run_sizeOf hs, Nat.mul_one]
      exact hr
    · simp at h
  · simp at h
theorem indexAddr_sound {t : TypeId} {x i v : AV} {c : Prop} {vx vi : Value} (h : indexAddrE P t x i = some (c, v)) (hc : c) (hx : VR G w ρ x vx) (hi : VR G w ρ i vi) :
    ∃ v', (Instr.indexAt t vx vi).run P w = .ok v' w ∧ VR G w ρ v v' := by
  unfold indexAddrE at h
  split at h
  · rename_i e s o k j hu
    split at h
    · rename_i hs
      simp only [Option.some.injEq, Prod.mk.injEq] at h
      obtain ⟨rfl, rfl⟩ := h
      obtain ⟨h0, h1⟩ := hc
      obtain rfl := hi.int_inv
      obtain ⟨base, cap, rfl, e1, e2, e3⟩ := bytes_cells hx
      cases base with
      | none => have := e2 rfl; omega
      | some p =>
        have e4 := e3 p.1 p.2 rfl j.toNat (by omega)
        refine ⟨.pointer (some (mkA p.1 (p.2 + j.toNat))), ?_, .cptr _ _ _ _ (fun q => .int .u8 (s.getD j.toNat 0).toNat) (fun q hq => ?_) (fun q c hq => ?_)⟩
        · have hb : 0 ≤ j ∧ j < (s.length : Int) := ⟨h0, by omega⟩
          simp only [Instr.indexAt, asIntOf, Sem.run_bind, Sem.run_pure, Result.andThen_ok, run_und hu, Option.map_some, if_pos hb, run_sizeOf hs, Nat.mul_one, mkA_add]
        · simp [byteEl, AV.cells] at hq; subst hq; exact e4
        · simp only [byteEl, AV.cells] at hq
          have : q = 0 := by have := (List.getElem?_eq_some_iff.1 hq).1; simpa using this
          subst this
          simp at hq; subst hq
          exact .int ..
    · simp at h
  · rename_i e sz m el o k j hu
    split at h
    · rename_i z hs
      simp only [cond_eq_ite] at h
      split at h
      · rename_i hz
        have hz := Nat.eq_of_beq_eq_true hz
        subst hz
        simp only [Option.some.injEq, Prod.mk.injEq] at h
        obtain ⟨rfl, rfl⟩ := h
        obtain ⟨h0, h1⟩ := hc
        obtain rfl := hi.int_inv
        obtain ⟨base, cap, vs, rfl, e1, e2, e3, e4, e5⟩ := hx.sl_inv
        have hj : j.toNat < m := by omega
        cases base with
        | none => have := e2 rfl; omega
        | some p =>
          refine ⟨.pointer (some (mkA p.1 (p.2 + j.toNat * z))), ?_, .cptr _ _ _ _ (fun q => vs (j.toNat * z + q)) (fun q hq => ?_) (fun q c hq => e5 _ _ _ hj hq)⟩
          · have hb : 0 ≤ j ∧ j < (m : Int) := ⟨h0, by omega⟩
            simp only [Instr.indexAt, asIntOf, Sem.run_bind, Sem.run_pure, Result.andThen_ok, run_und hu, Option.map_some, if_pos hb, run_sizeOf hs, mkA_add]
          · rw [e3 _ hj] at hq
            have : j.toNat * z + q < m * z := by
              have : (j.toNat + 1) * z ≤ m * z := Nat.mul_le_mul_right _ hj
              rw [Nat.succ_mul] at this; omega
            have := e4 p.1 p.2 rfl _ this
            rwa [← Nat.add_assoc] at this
      · simp at h
    · simp at h
  · rename_i e id off m cp k j hu
    split at h
    · rename_i z hs
      simp only [Option.some.injEq, Prod.mk.injEq] at h
      obtain ⟨rfl, rfl⟩ := h
      obtain ⟨h0, h1⟩ := hc
      obtain rfl := hi.int_inv
      obtain ⟨b, hr, rfl⟩ := hx.hs_inv
      refine ⟨.pointer (some (mkA b (off + j.toNat * z))), ?_, .ptr _ _ _ _ hr⟩
      have hb : 0 ≤ j ∧ j < (m : Int) := ⟨h0, by omega⟩
      simp only [Instr.indexAt, asIntOf, Sem.run_bind, Sem.run_pure, Result.andThen_ok, run_und hu, if_pos hb, run_sizeOf hs, mkA_add]
    · simp at h
  · rename_i m e id off k j hu
    split at h
    · rename_i z hs
      simp only [Option.some.injEq, Prod.mk.injEq] at h
      obtain ⟨rfl, rfl⟩ := h
      obtain ⟨h0, h1⟩ := hc
      obtain rfl := hi.int_inv
      obtain ⟨b, hr, rfl⟩ := hx.ptr_inv
      refine ⟨.pointer (some (mkA b (off + j.toNat * z))), ?_, .ptr _ _ _ _ hr⟩
      have hb : 0 ≤ j ∧ j < (m : Int) := ⟨h0, by omega⟩
      simp only [Instr.indexAt, asIntOf, Sem.run_bind, Sem.run_pure, Result.andThen_ok, run_und hu, Instr.sureAddr, if_pos hb, run_sizeOf hs, mkA_add]
    · simp at h
  · simp at h
theorem run_fieldPlace {b off : Nat} {fd : Field} {z : Nat} (h : szT P fd.type = some (z + 1)) : (fieldPlace (mkA b off) fd).run P w = .ok (mkA b (off + fd.offset)) w := by
  simp [fieldPlace, run_sizeOf h, mkA_add]
theorem fieldOf_some {s : TypeId} {f o t : Nat} (h : fieldOf P s f = some (o, t)) : ∃ fs fd, P.underlying s = some (.struct fs) ∧ fs[f]? = some fd ∧ fd.offset = o ∧ fd.type = t := by
  unfold fieldOf at h
  split at h
  · rename_i fs hu
    obtain ⟨fd, h1, h2⟩ := Option.map_eq_some_iff.1 h
    simp only [Prod.mk.injEq] at h2
    exact ⟨fs, fd, hu, h1, h2.1, h2.2⟩
  · simp at h
theorem fieldAddr_sound {s : TypeId} {x v : AV} {f : Nat} {vx : Value} (h : fieldAddrE P s x f = some v) (hx : VR G w ρ x vx) :
    ∃ v', (Instr.fieldAt s vx f).run P w = .ok v' w ∧ VR G w ρ v v' := by
  unfold fieldAddrE at h
  split at h
  · rename_i o t id off hf
    obtain ⟨fs, fd, hu, h1, rfl, rfl⟩ := fieldOf_some hf
    split at h
    · rename_i z hz
      simp only [Option.some.injEq] at h; subst h
      obtain ⟨b, hr, rfl⟩ := hx.ptr_inv
      exact ⟨_, by simp [Instr.fieldAt, run_und hu, h1, Instr.sureAddr, run_fieldPlace hz], .ptr _ _ _ _ hr⟩
    · simp at h
  · rename_i o t cs hf
    obtain ⟨fs, fd, hu, h1, rfl, rfl⟩ := fieldOf_some hf
    split at h
    · rename_i z hz
      simp only [cond_eq_ite] at h
      split at h
      · rename_i hle
        have hle := Nat.le_of_ble_eq_true hle
        obtain ⟨b, off, vs, rfl, hc, hv⟩ := hx.cptr_inv
        simp only [AV.cells] at hc hv
        have hrun : (Instr.fieldAt s (.pointer (some (mkA b off))) f).run P w = .ok (.pointer (some (mkA b (off + fd.offset)))) w := by
          simp [Instr.fieldAt, run_und hu, h1, Instr.sureAddr, run_fieldPlace hz]
        split at h
        · simp only [Option.some.injEq] at h; subst h
          refine ⟨_, hrun, .cptr _ _ _ _ (fun q => vs (fd.offset + q)) (fun q hq => ?_) (fun q c hq => ?_)⟩
          · simp [AV.cells] at hq
            have := hc (fd.offset + q) (by omega)
            rwa [← Nat.add_assoc] at this
          · simp only [AV.cells, List.getElem?_take] at hq
            split at hq
            · rw [List.getElem?_drop] at hq; exact hv _ _ hq
            · simp at hq
        · obtain ⟨c, hq, h⟩ := Option.bind_eq_some_iff.1 h
          have hcv := hv _ _ hq
          have hcc := hc fd.offset (by omega)
          cases c with
          | agg ds => simp [isSc] at h
          | _ =>
            simp [isSc] at h; subst h
            exact ⟨_, hrun, .cptr _ _ _ _ (fun q => vs (fd.offset + q)) (fun q hq => by simp [AV.cells] at hq; subst hq; exact hcc) (fun q c hq => by
              simp only [AV.cells] at hq
              have : q = 0 := by have := (List.getElem?_eq_some_iff.1 hq).1; simpa using this
              subst this
              simp at hq; subst hq
              exact hcv)⟩
        · simp at h
      · simp at h
    · simp at h
  · simp at h
theorem field_sound {s : TypeId} {x v : AV} {f : Nat} {vx : Value} (h : fieldE P s x f = some v) (hx : VR G w ρ x vx) :
    ∃ v', (Instr.field s vx f).run P w = .ok v' w ∧ VR G w ρ v v' := by
  unfold fieldE at h
  split at h
  · rename_i o t cs hf
    obtain ⟨fs, fd, hu, h1, rfl, rfl⟩ := fieldOf_some hf
    obtain ⟨vs, rfl, hl, hv⟩ := hx.agg_inv
    obtain ⟨v', hr, hv'⟩ := part_sound (P := P) h ⟨hl, hv⟩
    exact ⟨v', by simpa [Instr.field, run_und hu, h1, asAgg] using hr, hv'⟩
  · simp at h
theorem extract_sound {x v : AV} {i : Nat} {vx : Value} (h : extractE x i = some v) (hx : VR G w ρ x vx) : ∃ v', (Instr.extract vx i).run P w = .ok v' w ∧ VR G w ρ v v' := by
  unfold extractE at h
  split at h
  · obtain ⟨c, hc, rfl⟩ := Option.map_eq_some_iff.1 h
    obtain ⟨vs, rfl, hl, hv⟩ := hx.tup_inv
    have hi : i < vs.length := by rw [hl]; exact (List.getElem?_eq_some_iff.1 hc).1
    exact ⟨vs[i], by simp [Instr.extract, hi], (hv i c _ hc (List.getElem?_eq_getElem hi)).un⟩
  · simp at h
end Go.Am
