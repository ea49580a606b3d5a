/- The law EncLent returns true and leaves its input as it was, for every input of bulk at most 1048576. The condition: the bulk of what is handed in is at most 1048576. -/
import Derived.Test.YtfkpdfpnpcdhaaaRows
import Derived.Test.YtfkpdfpnpcdhaaaE5
set_option maxRecDepth 100000
set_option linter.unusedVariables false
set_option linter.unusedSimpArgs false
namespace Go.Proofs.Ytfkpdfpnpcdhaaa
open Go.Am
theorem one_le {H : Type} (d : DataW H) : 1 ≤ Rows.uptoBulk d := by
  cases d with
  | lit l => cases l <;> simp [Rows.uptoBulk]
  | _ => simp [Rows.uptoBulk]
theorem length_le {H : Type} (l : List (DataW H)) : l.length ≤ Rows.uptoBulkAll l := by
  induction l with
  | nil => simp [Rows.uptoBulkAll]
  | cons x r ih => have := one_le x; simp only [Rows.uptoBulkAll, List.length_cons]; omega
theorem bulk_strs {H : Type} (l : List (List UInt8)) : (packL l).length ≤ 5 * Rows.uptoBulkAll (l.map fun s => (DataW.lit (.string s) : DataW H)) ∧ l.length ≤ Rows.uptoBulkAll (l.map fun s => (DataW.lit (.string s) : DataW H)) := by
  induction l with
  | nil => simp [packL]
  | cons s l ih =>
    have e : packL (s :: l) = be4 s.length ++ s ++ packL l := by simp [packL]
    rw [e]
    simp only [List.map_cons, Rows.uptoBulkAll, Rows.uptoBulk, List.length_append, List.length_cons, be4, List.length_nil]
    omega
end Go.Proofs.Ytfkpdfpnpcdhaaa
namespace Go.Proofs.Ytfkpdfpnpcdhaaa.encLent
open Go.ChangeShapes Go.WideShapes Go.ChangeAt Go.RowKit Go.Am
theorem own : ownKnob Try.prog.godebug = none := by kernel_rfl
theorem contract (H : Type) (enc : TypeId × Value → H) (W : World) (base : Nat) (args : Array Value) (ds gs : List (DataW H)) (before : List MemPlace)
    (hval : ∀ (j : Nat) t v, Try.f4.params[j]? = some t → args[j]? = some v → Value.okWide Try.prog W .any base t v)
    (hW : DataW.Whole enc Try.prog Try.f4.params.toList Rows.encLentSpec.vars false W args.toList ds gs before) (hk : Rows.uptoSmall H (ds ++ gs) = true) :
    Calls Try.prog 4 args W fun e W' => ∃ v, e = .returned v ∧ Rows.encLentSpec.post enc Try.prog Try.f4 false true false false W args v W' := by
  have hW' := hW
  obtain ⟨p, q, hA0, hV, rfl, hfz, hnd⟩ := hW
  have hA : DataW.TrodAll enc Try.prog W 0 (fun _ => true) true Try.f4.params.toList args.toList ds p := hA0
  rw [Try.params4] at hA hval
  obtain ⟨v0, vs0, d0, ds0, p0, q0, hargs, rfl, rfl, h0, r0⟩ := trodAll_cons hA
  obtain ⟨v1, vs1, d1, ds1, p1, q1, rfl, rfl, rfl, h1, r1⟩ := trodAll_cons r0
  obtain ⟨rfl, rfl, rfl⟩ := trodAll_nil r1
  obtain rfl : args = #[v0, v1] := by cases args; simp_all
  obtain ⟨rfl, rfl⟩ := trodVars_none hV
  obtain ⟨l0, g0, e0⟩ := arg_bytes Try.underlying22 Try.underlying5 (by kernel_rfl) (hval 0 22 v0 rfl rfl) h0
  obtain ⟨l1, g1, e1⟩ := arg_strs Try.underlying29 Try.underlying9 (by kernel_rfl) (hval 1 29 v1 rfl rfl) h1
  have hb := of_decide_eq_true hk
  simp only [List.append_nil, Rows.uptoBulkAll] at hb
  have hl0 : l0.length ≤ 1048576 := by
    rcases e0 with ⟨rfl, rfl⟩ | ⟨es, sp, rfl, e0⟩
    · simp
    · have := length_le es
      simp only [Rows.uptoBulk] at hb; omega
  have hl1 : l1.length ≤ 1048576 ∧ (packL l1).length ≤ 8388608 := by
    rcases e1 with ⟨rfl, rfl⟩ | ⟨sp, rfl⟩
    · simp [packL]
    · have := bulk_strs (H := H) l1
      simp only [Rows.uptoBulk] at hb; omega
  refine ((lent_ok l0 l1 hl0 hl1.1 hl1.2).law W (fun _ _ h => by cases h) [v0, v1] rfl (fun i c v k1 k2 => ?_)).mono fun e W' ⟨he, hg⟩ => ?_
  · match i, k1, k2 with
    | 0, k1, k2 => simp at k1 k2; subst k1; subst k2; exact ⟨g0, rfl⟩
    | 1, k1, k2 => simp at k1 k2; subst k1; subst k2; exact ⟨g1, rfl⟩
    | i + 2, k1, _ => simp at k1
  subst he
  exact ⟨_, rfl, post_law (by kernel_rfl) hW' rfl rfl rfl Try.underlying4 (by kernel_rfl) hg⟩
set_option maxRecDepth 100000 in
theorem lifted (os : Os) (started : os.Started) (H : Type) (enc : TypeId × Value → H) (F : Stop.Interp) :
    ReturnsInHanded {} Try.checked os 4 .any ((Rows.OpenSpec.upto Rows.encLentSpec).pre6 enc Try.prog Try.f4 Rows.encLentUptoRow.domain false) (((Rows.OpenSpec.upto Rows.encLentSpec).at F).post enc Try.prog Try.f4 false true false false) := by
  refine returnsInHanded_of_cond (C := Try.checked) (s := Rows.OpenSpec.upto Rows.encLentSpec) (k := Rows.uptoSmall) rfl own started (by kernel_rfl) Try.func4
    (OpenSpec.witness (enc := enc) (C := Try.checked) (s := Rows.OpenSpec.upto Rows.encLentSpec) (k := Rows.uptoSmall) rfl false ⟨#[], #[.slice none 0 0, .slice none 0 0], []⟩ 8 (by kernel_rfl) (by kernel_rfl) (by kernel_rfl)
      (x := ([.nil, .nil], [], [])) (by kernel_rfl) rfl (by kernel_rfl)) ?_
  intro W base args ds gs before hval hW _ hk _
  exact contract H enc W base args ds gs before hval hW hk
theorem over : Rows.encLentUptoRow.holds Try.pinned (Rows.OpenSpec.upto Rows.encLentSpec) :=
  OpenClaim.holds_of_cond 4 Try.f4 rfl rfl rfl rfl rfl rfl rfl ⟨rfl, rfl, rfl, rfl, rfl⟩ rfl rfl rfl rfl rfl (by kernel_rfl) Try.func4 (by kernel_rfl)
    (of_decide_eq_true (by kernel_rfl)) (by unfold Func.isWrapper; first | (rw [if_pos (by decide +kernel)]; kernel_rfl) | (rw [if_neg (by decide +kernel)]; exact ⟨rfl, rfl⟩))
    (fun os started H enc _ F => lifted os started H enc F)
theorem proved : Rows.EncLentUptoSaid := over
end Go.Proofs.Ytfkpdfpnpcdhaaa.encLent
