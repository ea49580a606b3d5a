/- The abstract machine: slices cut. -/
import Derived.Test.YtnohmijdpmelpaaGreatAm8
set_option linter.unusedSectionVars false
set_option linter.unusedVariables false
set_option linter.unusedSimpArgs false
namespace Go.Am
open Go
variable [Tab]
variable {P : Program} {G : Gh} {w : World} {ρ : List Nat}

def OptVR (G : Gh) (w : World) (ρ : List Nat) : Option AV → Option Value → Prop
  | none, none => True
  | some a, some v => VR G w ρ a v
  | _, _ => False
theorem bounds_none {b : Bool} {len cap : Nat} {lo hi : Option AV} {rl rh : Option Value} {l h : Int} (hl : OptVR G w ρ lo rl) (hh : OptVR G w ρ hi rh)
    (el : bnd 0 lo = some l) (eh : bnd len hi = some h) (h0 : 0 ≤ l) (h1 : l ≤ h) (h2 : h ≤ cap) :
    (Instr.sliceBounds b len cap rl rh none).run P w = .ok (l.toNat, h.toNat, cap) w := by
  have hh0 : 0 ≤ h := by omega
  have key : ∀ {x : Int} {k : IntKind} {y : Nat} {code}, 0 ≤ x → x ≤ y → (Instr.sliceBound (.int k x) y code).run P w = .ok x.toNat w := by
    intro x k y code a b
    simp [Instr.sliceBound, asIntOf, a, b]
  have hlow : ∀ c, (match rl with | some v => Instr.sliceBound v h.toNat c | none => pure 0 : Sem Nat).run P w = .ok l.toNat w := by
    intro c
    cases lo with
    | none =>
      cases rl with
      | none => simp [bnd] at el; subst el; rfl
      | some _ => exact hl.elim
    | some a =>
      cases rl with
      | none => exact hl.elim
      | some v =>
        cases a <;> simp [bnd] at el
        subst el
        obtain rfl := VR.int_inv hl
        exact key h0 (by omega)
  have hhigh : ∀ c, (match rh with | some v => Instr.sliceBound v cap c | none => pure len : Sem Nat).run P w = .ok h.toNat w := by
    intro c
    cases hi with
    | none =>
      cases rh with
      | none => simp [bnd] at eh; subst eh; rfl
      | some _ => exact hh.elim
    | some a =>
      cases rh with
      | none => exact hh.elim
      | some v =>
        cases a <;> simp [bnd] at eh
        subst eh
        obtain rfl := VR.int_inv hh
        exact key hh0 (by omega)
  have h3 := hlow (if false then .slice3C else .sliceB)
  have h4 := hhigh (if b then .sliceAcap else .sliceAlen)
  unfold Instr.sliceBounds
  cases rh with
  | none =>
    simp only [Sem.run_pure, Result.ok.injEq, and_true] at h4
    simp only [Sem.run_bind, Sem.run_pure, Result.andThen_ok, h4]
    cases rl with
    | none => simp only [Sem.run_pure, Result.ok.injEq, and_true] at h3; simp [h3]
    | some v =>
      have h3 : Sem.run P (Instr.sliceBound v h.toNat (if false = true then .slice3C else .sliceB)) w = .ok l.toNat w := h3
      simp only [Option.isSome, Sem.run_bind, h3, Result.andThen_ok, Sem.run_pure]
  | some vh =>
    simp only [Sem.run_bind, Sem.run_pure, Result.andThen_ok, h4]
    cases rl with
    | none => simp only [Sem.run_pure, Result.ok.injEq, and_true] at h3; simp [h3]
    | some v =>
      have h3 : Sem.run P (Instr.sliceBound v h.toNat (if false = true then .slice3C else .sliceB)) w = .ok l.toNat w := h3
      simp only [Option.isSome, Sem.run_bind, h3, Result.andThen_ok, Sem.run_pure]
theorem bounds_max {b : Bool} {len cap : Nat} {lo : Option AV} {rl : Option Value} {l h mx : Int} {k k2 : IntKind} (hl : OptVR G w ρ lo rl)
    (el : bnd 0 lo = some l) (h0 : 0 ≤ l) (h1 : l ≤ h) (h2 : h ≤ mx) (h3 : mx ≤ cap) :
    (Instr.sliceBounds b len cap rl (some (.int k h)) (some (.int k2 mx))).run P w = .ok (l.toNat, h.toNat, mx.toNat) w := by
  have key : ∀ {x : Int} {k : IntKind} {y : Nat} {code}, 0 ≤ x → x ≤ y → (Instr.sliceBound (.int k x) y code).run P w = .ok x.toNat w := by
    intro x k y code a b
    simp [Instr.sliceBound, asIntOf, a, b]
  have hlow : ∀ c, (match rl with | some v => Instr.sliceBound v h.toNat c | none => pure 0 : Sem Nat).run P w = .ok l.toNat w := by
    intro c
    cases lo with
    | none =>
      cases rl with
      | none => simp [bnd] at el; subst el; rfl
      | some _ => exact hl.elim
    | some a =>
      cases rl with
      | none => exact hl.elim
      | some v =>
        cases a <;> simp [bnd] at el
        subst el
        obtain rfl := VR.int_inv hl
        exact key h0 (by omega)
  have h4 := hlow .slice3C
  unfold Instr.sliceBounds
  simp only [Sem.run_bind, key (show 0 ≤ mx by omega) h3, key (show 0 ≤ h by omega) (show h ≤ (mx.toNat : Int) by omega), Result.andThen_ok, Option.isSome]
  cases rl with
  | none => simp only [Sem.run_pure, Result.ok.injEq, and_true] at h4; simp [h4]
  | some v =>
    have h4 : Sem.run P (Instr.sliceBound v h.toNat .slice3C) w = .ok l.toNat w := h4
    simp only [if_true, Sem.run_bind, h4, Result.andThen_ok, Sem.run_pure]
/-- a part of a slice -/
theorem VR.slice_part {sz m : Nat} {el : Nat → AV} {o o' : Bool} {v : Value} (hv : VR G w ρ (.sl sz m el o) v) {l h : Nat} (h1 : l ≤ h) (h2 : h ≤ m) :
    ∃ base cap, v = .slice base m cap ∧ m ≤ cap ∧ (∀ mx, h ≤ mx → mx ≤ cap → VR G w ρ (.sl sz (h - l) (fun i => el (l + i)) o') (.slice (if mx = l then base else base.map (·.add (l * sz))) (h - l) (mx - l))) := by
  obtain ⟨base, cap, vs, rfl, e1, e2, e3, e4, e5⟩ := hv.sl_inv
  refine ⟨_, _, rfl, e1, fun mx hmx hcap => ?_⟩
  have hb : (if mx = l then (base.map fun p => mkA p.1 p.2) else (base.map fun p => mkA p.1 p.2).map (·.add (l * sz))) = ((if mx = l then base else base.map fun p => (p.1, p.2 + l * sz)).map fun p => mkA p.1 p.2) := by
    split
    · rfl
    · cases base <;> simp [mkA_add]
  rw [hb]
  refine .sl _ _ _ _ _ _ _ (fun q => vs (l * sz + q)) (by omega) (fun hn => ?_) (fun i hi => e3 _ (by omega)) (fun b o e q hq => ?_) (fun i j c hi hc => ?_)
  · split at hn
    · omega
    · cases base with
      | none => have := e2 rfl; omega
      | some p => simp at hn
  · split at e
    · have : h - l = 0 := by omega
      rw [this] at hq; simp at hq
    · cases base with
      | none => simp at e
      | some p =>
        simp at e
        obtain ⟨rfl, rfl⟩ := e
        have hlt : l * sz + q < m * sz := by
          have : h * sz ≤ m * sz := Nat.mul_le_mul_right _ h2
          have h3 : (h - l) * sz = h * sz - l * sz := Nat.sub_mul ..
          omega
        have := e4 p.1 p.2 rfl _ hlt
        rwa [← Nat.add_assoc] at this
  · have := e5 (l + i) j c (by omega) hc
    rwa [show (l + i) * sz + j = l * sz + (i * sz + j) by rw [Nat.add_mul]; omega] at this
theorem byteEl_drop (s : List UInt8) (l h : Nat) (hh : h ≤ s.length) (hl : l ≤ h) : ∀ i, i < h - l → byteEl ((s.take h).drop l) i = byteEl s (l + i) := by
  intro i hi
  simp only [byteEl, List.getD_eq_getElem?_getD, List.getElem?_drop]
  rw [List.getElem?_take, if_pos (by omega)]
theorem VR.sl_congr {sz m : Nat} {el el' : Nat → AV} {o : Bool} {v : Value} (hv : VR G w ρ (.sl sz m el o) v) (h : ∀ i, i < m → el' i = el i) : VR G w ρ (.sl sz m el' o) v := by
  obtain ⟨base, cap, vs, rfl, e1, e2, e3, e4, e5⟩ := hv.sl_inv
  exact .sl _ _ _ _ _ _ _ vs e1 e2 (fun i hi => by rw [h i hi]; exact e3 i hi) e4 (fun i j c hi hc => e5 i j c hi (by rwa [h i hi] at hc))
theorem VR.bs_part {s : List UInt8} {o o' : Bool} {v : Value} (hv : VR G w ρ (.bs s o) v) {l h : Nat} (h1 : l ≤ h) (h2 : h ≤ s.length) :
    ∃ base cap, v = .slice base s.length cap ∧ s.length ≤ cap ∧ (∀ mx, h ≤ mx → mx ≤ cap → VR G w ρ (.bs ((s.take h).drop l) o') (.slice (if mx = l then base else base.map (·.add (l * 1))) (h - l) (mx - l))) := by
  obtain ⟨base, cap, e1, e2, e3⟩ := VR.slice_part (o' := o') hv.bs_inv h1 h2
  refine ⟨base, cap, e1, e2, fun mx a b => .bs _ _ _ _ ?_⟩
  have hl : ((s.take h).drop l).length = h - l := by simp; omega
  rw [hl]
  exact (e3 mx a b).sl_congr (byteEl_drop s l h h2 h1)
end Go.Am
