/- The abstract machine: the pure operations are right. -/
import Derived.Test.YtnohmijdpmelpaaGreatAm5
import Derived.Laws.IdiomCopy
import Derived.Laws.BytesArg
set_option linter.unusedSectionVars false
set_option linter.unusedVariables false
set_option linter.unusedSimpArgs false
namespace Go.Am
open Go
variable [Tab]
variable {P : Program} {G : Gh} {w : World} {ρ : List Nat}

theorem run_isAgg {t : TypeId} {b : Bool} (h : isAggT P t = some b) : (isAgg t).run P w = .ok b w := by
  unfold isAggT at h
  unfold isAgg
  split at h <;> simp_all [run_und]
theorem run_sizeOf {t : TypeId} {n : Nat} (h : szT P t = some n) : (sizeOf t).run P w = .ok n w := by
  rw [szT_eq] at h
  obtain ⟨i, hi, rfl⟩ := Option.map_eq_some_iff.1 h
  simp [sizeOf, run_ti hi]
def VRs (G : Gh) (w : World) (ρ : List Nat) (cs : List AV) (vs : List Value) : Prop :=
  vs.length = cs.length ∧ ∀ (q : Nat) (c : AV) (v : Value), cs[q]? = some c → vs[q]? = some v → VR G w ρ c v
theorem VRs.sub {cs vs} (h : VRs G w ρ cs vs) (o n : Nat) : VRs G w ρ ((cs.drop o).take n) ((vs.drop o).take n) := by
  refine ⟨by simp [h.1], fun q c v h1 h2 => ?_⟩
  rw [List.getElem?_take] at h1 h2
  split at h1
  · rename_i hq
    rw [if_pos hq, List.getElem?_drop] at h2
    rw [List.getElem?_drop] at h1
    exact h.2 _ _ _ h1 h2
  · simp at h1
theorem part_sound {t : TypeId} {cs : List AV} {vs : List Value} {off : Nat} {v : AV} (h : partE P t cs off = some v) (hv : VRs G w ρ cs vs) :
    ∃ v', (part t vs.toArray off).run P w = .ok v' w ∧ VR G w ρ v v' := by
  unfold partE at h
  split at h
  · rename_i n ha hs
    simp only [Option.some.injEq] at h
    subst h
    refine ⟨.agg ((vs.drop off).take n).toArray, ?_, .agg _ _ _ (hv.sub off n).1 (hv.sub off n).2⟩
    simp only [part, Sem.run_bind, run_isAgg ha, Result.andThen_ok, if_true, run_sizeOf hs, Sem.run_pure]
    congr 2
    apply Array.ext'
    simp [List.take_drop, Nat.add_comm]
  · rename_i n ha hs
    obtain ⟨c, hc, rfl⟩ := Option.map_eq_some_iff.1 h
    have hl : off < vs.length := by rw [hv.1]; exact (List.getElem?_eq_some_iff.1 hc).1
    refine ⟨vs[off], ?_, (hv.2 off c _ hc (List.getElem?_eq_getElem hl)).un⟩
    simp [part, run_isAgg ha, hl]
  · simp at h
theorem list_of_fun {cs : List AV} {p : Nat → Value → Prop} (h : ∀ (q : Nat) (c : AV), cs[q]? = some c → ∃ x, p q x ∧ VR G w ρ c x) :
    ∃ vs : List Value, VRs G w ρ cs vs ∧ ∀ (q : Nat) (v : Value), vs[q]? = some v → p q v := by
  refine ⟨(List.range cs.length).map fun q => if hq : q < cs.length then Classical.choose (h q cs[q] (List.getElem?_eq_getElem hq)) else undef, ⟨by simp, fun q c v h1 h2 => ?_⟩, fun q v h2 => ?_⟩
  · have hq := (List.getElem?_eq_some_iff.1 h1).1
    simp only [List.getElem?_map, List.getElem?_range hq, Option.map_some, Option.some.injEq] at h2
    rw [dif_pos hq] at h2
    subst h2
    have e : cs[q] = c := by rw [List.getElem?_eq_getElem hq] at h1; exact Option.some.inj h1
    subst e
    exact (Classical.choose_spec (h q cs[q] (List.getElem?_eq_getElem hq))).2
  · have hq : q < cs.length := by have := (List.getElem?_eq_some_iff.1 h2).1; simpa using this
    simp only [List.getElem?_map, List.getElem?_range hq, Option.map_some, Option.some.injEq] at h2
    rw [dif_pos hq] at h2
    subst h2
    exact (Classical.choose_spec (h q cs[q] (List.getElem?_eq_getElem hq))).1
theorem var_sound {t : TypeId} {cs : List AV} {b o off : Nat} {v : AV} (h : varE P t cs off = some v)
    (hv : ∀ (q : Nat) (c : AV), cs[q]? = some c → ∃ x, w.cell? (mkA b (o + q)) = some x ∧ VR G w ρ c x) :
    ∃ v', (loadVar t (mkA b (o + off))).run P w = .ok v' w ∧ VR G w ρ v v' := by
  obtain ⟨vs, hvs, hcell⟩ := list_of_fun (p := fun q x => w.cell? (mkA b (o + q)) = some x) hv
  unfold varE at h
  split at h
  · rename_i n ha hs
    simp only [cond_eq_ite] at h
    split at h
    · rename_i hle
      have hle := Nat.le_of_ble_eq_true hle
      simp only [Option.some.injEq] at h
      subst h
      refine ⟨.agg ((vs.drop off).take n).toArray, ?_, .agg _ _ _ (hvs.sub off n).1 (hvs.sub off n).2⟩
      have hl : ((vs.drop off).take n).length = n := by simp [hvs.1]; omega
      have := run_loadCells_list (P := P) w (mkA b (o + off)) ((vs.drop off).take n) (fun j v hj => by
        rw [List.getElem?_take] at hj
        split at hj
        · rw [List.getElem?_drop] at hj
          rw [mkA_add, Nat.add_assoc]
          exact hcell _ _ hj
        · simp at hj)
      rw [hl] at this
      simp only [loadVar, Sem.run_bind, run_isAgg ha, Result.andThen_ok, if_true, run_sizeOf hs, this, Sem.run_pure]
    · simp at h
  · rename_i n ha hs
    obtain ⟨c, hc, rfl⟩ := Option.map_eq_some_iff.1 h
    have hl : off < vs.length := by rw [hvs.1]; exact (List.getElem?_eq_some_iff.1 hc).1
    refine ⟨vs[off], ?_, (hvs.2 off c _ hc (List.getElem?_eq_getElem hl)).un⟩
    have := hcell off _ (List.getElem?_eq_getElem hl)
    simp [loadVar, run_isAgg ha, this]
  · simp at h
theorem load_sound {H : Heap} {t : TypeId} {x v : AV} {vx : Value} (h : loadE P H t x = some v) (hb : BR G w ρ H) (hx : VR G w ρ x vx) :
    ∃ v', (Instr.loadAt t vx).run P w = .ok v' w ∧ VR G w ρ v v' := by
  unfold loadE at h
  split at h
  · obtain ⟨b, o, vs, rfl, hc, hv⟩ := hx.cptr_inv
    have := var_sound (b := b) (o := o) (w := w) (G := G) (ρ := ρ) h (fun q c hq => ⟨vs q, (hc q (List.getElem?_eq_some_iff.1 hq).1).2, (hv q c hq).of_nil⟩)
    simpa [Instr.loadAt, Instr.sureAddr] using this
  · rename_i id off
    obtain ⟨b, hr, rfl⟩ := hx.ptr_inv
    obtain ⟨blk, hk, h⟩ := Option.bind_eq_some_iff.1 h
    have := var_sound (b := b) (o := 0) (w := w) (G := G) (ρ := ρ) h (fun q c hq => by
      obtain ⟨_, x, hx1, hx2, _⟩ := hb.cell id b blk q c hr hk hq
      exact ⟨x, by rwa [Nat.zero_add], hx2⟩)
    simpa [Instr.loadAt, Instr.sureAddr] using this
  · simp at h
theorem un_sound {op : UnOp} {x v : AV} {vx : Value} (h : unE op x = some v) (hx : VR G w ρ x vx) : ∃ v', (Op.unary op vx).run P w = .ok v' w ∧ VR G w ρ v v' := by
  unfold unE at h
  split at h <;> simp only [Option.some.injEq, reduceCtorEq] at h <;> subst h
  · obtain rfl := hx.int_inv; exact ⟨_, by simp [Op.unary, Op.intArith], .int ..⟩
  · obtain rfl := hx.int_inv; exact ⟨_, by simp [Op.unary, Op.intBits, bitsE], .int ..⟩
  · obtain rfl := hx.bool_inv; exact ⟨_, by simp [Op.unary], .bool ..⟩
theorem bytes_cells {s : List UInt8} {o : Bool} {v : Value} (h : VR G w ρ (.bs s o) v) :
    ∃ (base : Option (Nat × Nat)) (cap : Nat), v = .slice (base.map fun p => mkA p.1 p.2) s.length cap ∧ s.length ≤ cap ∧ (base = none → cap = 0) ∧
      ∀ b off, base = some (b, off) → ∀ q, q < s.length → G b (off + q) = .frz ∧ w.cell? (mkA b (off + q)) = some (.int .u8 (s.getD q 0).toNat) := by
  obtain ⟨base, cap, vs, rfl, h1, h2, h3, h4, h5⟩ := h.bs_inv.sl_inv
  refine ⟨base, cap, rfl, h1, h2, fun b off e q hq => ?_⟩
  have h6 := h4 b off e q (by omega)
  have h7 := h5 q 0 (byteEl s q) hq (by simp [byteEl, AV.cells])
  have h8 := VR.int_inv h7
  rw [Nat.mul_one, Nat.add_zero] at h8
  rw [h8] at h6
  exact h6
theorem conv_sound {s d : TypeId} {x v : AV} {vx : Value} (h : convE P s d x = some v) (hx : VR G w ρ x vx) : ∃ v', (convert s d vx).run P w = .ok v' w ∧ VR G w ρ v v' := by
  unfold convE at h
  split at h
  · rename_i hs hd
    simp only [Option.some.injEq] at h; subst h
    obtain rfl := hx.int_inv
    exact ⟨_, by simp [convert, run_und hs, run_und hd, Conv.intToInt], .int ..⟩
  · rename_i hs hd
    simp only [Option.some.injEq] at h; subst h
    obtain rfl := hx.str_inv
    exact ⟨_, by simp [convert, run_und hs, run_und hd], .str ..⟩
  · rename_i e a o hs hd
    split at h
    · rename_i he
      simp only [Option.some.injEq] at h; subst h
      obtain ⟨base, cap, rfl, h1, h2, h3⟩ := bytes_cells hx
      cases base with
      | none =>
        have : a = [] := List.eq_nil_of_length_eq_zero (by have := h2 rfl; omega)
        subst this
        exact ⟨.string ⟨#[]⟩, run_convert_bytes_nil w s e hs he _ _ d hd, .str _ []⟩
      | some p =>
        have := run_convert_bytes_arg (P := P) w s e hs he p.1 p.2 a.length cap (a.map fun c => (c.toNat : Int)) (by simp) (fun i hi => by
          have := (h3 p.1 p.2 rfl i hi).2
          simp [mkA] at this
          rw [this]
          simp [List.getD_eq_getElem?_getD, List.getElem?_eq_getElem hi]) d hd
        refine ⟨.string ⟨a.toArray⟩, ?_, .str ..⟩
        simp only [Option.map_some, mkA]
        rw [this]
        have : (a.map fun c => (c.toNat : Int)).map (fun n => UInt8.ofNat n.toNat) = a := by
          rw [List.map_map]
          conv => rhs; rw [← List.map_id a]
          exact List.map_congr_left fun c _ => by simp
        rw [strOfNums, this]
    · simp at h
  · simp at h
theorem len_sound {t : TypeId} {ty : TypeId} {ats : Array TypeId} (ht : ats[0]? = some t) {x v : AV} {vx : Value} (h : lenE P t x = some v) (hx : VR G w ρ x vx) : ∃ v', (Builtin.len_ ats ty #[vx]).run P w = .ok v' w ∧ VR G w ρ v v' := by
  unfold lenE at h
  split at h <;> simp only [Option.some.injEq, reduceCtorEq] at h <;> subst h <;> rename_i hu
  · obtain rfl := hx.str_inv
    rename_i s _ _; exact ⟨.int .i64 _, by simp only [Builtin.len_, ht, List.getElem?_toArray, List.getElem?_cons_zero, Sem.run_bind, run_und hu, Result.andThen_ok, goInt]; rfl, .int ..⟩
  · obtain ⟨base, cap, rfl, _⟩ := bytes_cells hx
    exact ⟨_, by simp [Builtin.len_, ht, run_und hu, goInt], .int ..⟩
  · obtain ⟨base, cap, vs, rfl, _⟩ := hx.sl_inv
    exact ⟨_, by simp [Builtin.len_, ht, run_und hu, goInt], .int ..⟩
  · obtain ⟨b, _, rfl⟩ := hx.hs_inv
    exact ⟨_, by simp [Builtin.len_, ht, run_und hu, goInt], .int ..⟩
end Go.Am
