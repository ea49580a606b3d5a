/- The law SigCanonical returns true and leaves its input as it was, for every input of bulk at most 1048576. The condition: the bulk of what is handed in is at most 1048576. -/
import Derived.Test.YtnohmijdpmelpaaGreatArg
set_option maxRecDepth 100000
set_option linter.unusedVariables false
set_option linter.unusedSimpArgs false
namespace Go.Proofs.YtnohmijdpmelpaaGreat
open Go Go.Am
theorem sigCanonical_ok (m t : List UInt8) (hd : List Hd) (body : List UInt8) (sg : List (List UInt8)) (pay : List UInt8) (pre : Bool) (b : Bd m t hd sg pay) : FnOK Tryz.prog 3 [.agg [.str m, .str t, .sl 2 hd.length (hdEl hd) false, .bs body false], .sl 1 sg.length (strEl sg) false, .str pay, .bool pre] [] (.bool true) [] := by
  refine FnOK.of_runs Tryz.func3 rfl (Nat.le_of_ble_eq_true rfl) ?_
  refine Runs.seq ?_
  refine Runs.reg [] [] rfl (by (try simp only [wrap_i64', wrap_u8, wrap_u16, wrap_u32, wrap_u64, wrap_i32, List.length_cons, List.length_nil, List.length_append, List.length_map, tmodN, tdivN]); and_intros <;> first | exact True.intro | omega | skip) ?_
  refine Runs.seq ?_
  refine Runs.reg [(4, { res := .tup [.str ((canonL m t hd sg pay pre).getD []), .int .i64 (errC (canonL m t hd sg pay pre))] })] [1, 2, 3] rfl (by and_intros <;> first | exact True.intro | exact ccanon_ok m t hd body sg pay pre b) ?_
  refine Runs.seq ?_
  refine Runs.reg [(4, { res := .tup [.str ((canonL m t hd sg pay pre).getD []), .int .i64 (errC (canonL m t hd sg pay pre))] })] [1, 2, 3] rfl (by and_intros <;> first | exact True.intro | exact rcanon_ok m t hd body sg pay pre b) ?_
  refine Runs.seq ?_
  refine Runs.region ?_
  refine Runs.rest [(2, { res := .bool true }), (6, { res := .bool true }), (9, { res := .bool true })] [0, 1, 4, 5] rfl (by and_intros <;> first | exact True.intro | exact awake18_ok | (refine congrArg AV.bool ?_; simp)) ?_
  refine Runs.drop 0 (Nat.zero_le _) rfl ?_
  exact Runs.retH Tryz.func3 rfl rfl (by rfl) (by rfl)
end Go.Proofs.YtnohmijdpmelpaaGreat
namespace Go.Proofs.YtnohmijdpmelpaaGreat.sigCanonical
open Go.ChangeShapes Go.WideShapes Go.ChangeAt Go.RowKit Go.Am
theorem own : ownKnob Tryz.prog.godebug = none := by kernel_rfl
theorem contract (H : Type) (enc : TypeId × Value → H) (W : World) (base : Nat) (args : Array Value) (ds gs : List (DataW H)) (before : List MemPlace)
    (hval : ∀ (j : Nat) t v, Tryz.f3.params[j]? = some t → args[j]? = some v → Value.okWide Tryz.prog W .any base t v)
    (hW : DataW.Whole enc Tryz.prog Tryz.f3.params.toList Rows.sigCanonicalSpec.vars false W args.toList ds gs before) (hk : Rows.uptoSmall H (ds ++ gs) = true) :
    Calls Tryz.prog 3 args W fun e W' => ∃ v, e = .returned v ∧ Rows.sigCanonicalSpec.post enc Tryz.prog Tryz.f3 false true false false W args v W' := by
  have hW' := hW
  obtain ⟨p, q, hA0, hV, rfl, hfz, hnd⟩ := hW
  have hA : DataW.TrodAll enc Tryz.prog W 0 (fun _ => true) true Tryz.f3.params.toList args.toList ds p := hA0
  rw [Tryz.params3] at hA hval
  obtain ⟨v0, vs0, d0, ds0, p0, q0, hargs, rfl, rfl, h0, r0⟩ := trodAll_cons hA
  obtain ⟨v1, vs1, d1, ds1, p1, q1, rfl, rfl, rfl, h1, r1⟩ := trodAll_cons r0
  obtain ⟨v2, vs2, d2, ds2, p2, q2, rfl, rfl, rfl, h2, r2⟩ := trodAll_cons r1
  obtain ⟨v3, vs3, d3, ds3, p3, q3, rfl, rfl, rfl, h3, r3⟩ := trodAll_cons r2
  obtain ⟨rfl, rfl, rfl⟩ := trodAll_nil r3
  obtain rfl : args = #[v0, v1, v2, v3] := by cases args; simp_all
  obtain ⟨rfl, rfl⟩ := trodVars_none hV
  obtain ⟨rm0, rt0, rh0, rb0, dh0, db0, g0, rfl, e0⟩ := arg_req (hval 0 25 v0 rfl rfl) h0
  obtain ⟨l1, g1, e1⟩ := arg_strs Tryz.underlying26 Tryz.underlying9 (by kernel_rfl) (hval 1 26 v1 rfl rfl) h1
  obtain ⟨l2, e2, rfl, g2⟩ := arg_str Tryz.underlying9 (hval 2 9 v2 rfl rfl) h2
  obtain ⟨b3, rfl, rfl, g3⟩ := arg_bool Tryz.underlying4 (hval 3 4 v3 rfl rfl) h3
  have hb := of_decide_eq_true hk
  simp only [List.append_nil, Rows.uptoBulkAll] at hb
  have hh0 : hdW rh0 ≤ Rows.uptoBulk dh0 := by
    rcases e0 with ⟨h, hl⟩ | ⟨sp, h⟩
    · subst hl; simp [hdW]
    · have := bulk_hds (H := H) rh0
      rw [h]; simp only [Rows.uptoBulk]; omega
  have hl1 : sgW l1 ≤ Rows.uptoBulk d1 := by
    rcases e1 with ⟨h, hl⟩ | ⟨sp, h⟩
    · subst hl; simp [sgW]
    · have := bulk_sgs (H := H) l1
      rw [h]; simp only [Rows.uptoBulk]; omega
  have hl2 : l2.length ≤ 1048576 := by (try simp only [Rows.uptoBulk] at hb); omega
  have hB : Bd rm0 rt0 rh0 l1 l2 := Bd.of (by simp only [Rows.uptoBulk, Rows.uptoBulkAll] at hb; omega)
  refine ((sigCanonical_ok rm0 rt0 rh0 rb0 l1 l2 b3 hB).law W (fun _ _ h => by cases h) [v0, v1, v2, .bool b3] rfl (fun i c v k1 k2 => ?_)).mono fun e W' ⟨he, hg⟩ => ?_
  · match i, k1, k2 with
    | 0, k1, k2 => simp at k1 k2; subst k1; subst k2; exact ⟨g0, rfl⟩
    | 1, k1, k2 => simp at k1 k2; subst k1; subst k2; exact ⟨g1, rfl⟩
    | 2, k1, k2 => simp at k1 k2; subst k1; subst k2; exact ⟨g2, rfl⟩
    | 3, k1, k2 => simp at k1 k2; subst k1; subst k2; exact ⟨g3, rfl⟩
    | i + 4, k1, _ => simp at k1
  subst he
  exact ⟨_, rfl, post_law (by kernel_rfl) hW' rfl rfl rfl Tryz.underlying4 (by kernel_rfl) hg⟩
set_option maxRecDepth 100000 in
theorem lifted (os : Os) (started : os.Started) (H : Type) (enc : TypeId × Value → H) (F : Stop.Interp) :
    ReturnsInHanded {} Tryz.checked os 3 .any ((Rows.OpenSpec.upto Rows.sigCanonicalSpec).pre6 enc Tryz.prog Tryz.f3 Rows.sigCanonicalUptoRow.domain false) (((Rows.OpenSpec.upto Rows.sigCanonicalSpec).at F).post enc Tryz.prog Tryz.f3 false true false false) := by
  refine returnsInHanded_of_cond (C := Tryz.checked) (s := Rows.OpenSpec.upto Rows.sigCanonicalSpec) (k := Rows.uptoSmall) rfl own started (by kernel_rfl) Tryz.func3
    (OpenSpec.witness (enc := enc) (C := Tryz.checked) (s := Rows.OpenSpec.upto Rows.sigCanonicalSpec) (k := Rows.uptoSmall) rfl false ⟨#[], #[.agg #[.string ⟨#[]⟩, .string ⟨#[]⟩, .slice none 0 0, .slice none 0 0], .slice none 0 0, .string ⟨#[]⟩, .bool false], []⟩ 8 (by kernel_rfl) (by kernel_rfl) (by kernel_rfl)
      (x := ([.agg [.lit (.string []), .lit (.string []), .nil, .nil], .nil, .lit (.string []), .lit (.bool false)], [], [])) (by kernel_rfl) rfl (by kernel_rfl)) ?_
  intro W base args ds gs before hval hW _ hk _
  exact contract H enc W base args ds gs before hval hW hk
theorem over : Rows.sigCanonicalUptoRow.holds Tryz.pinned (Rows.OpenSpec.upto Rows.sigCanonicalSpec) :=
  OpenClaim.holds_of_cond 3 Tryz.f3 rfl rfl rfl rfl rfl rfl rfl ⟨rfl, rfl, rfl, rfl, rfl⟩ rfl rfl rfl rfl rfl (by kernel_rfl) Tryz.func3 (by kernel_rfl)
    (of_decide_eq_true (by kernel_rfl)) (by unfold Func.isWrapper; first | (rw [if_pos (by decide +kernel)]; kernel_rfl) | (rw [if_neg (by decide +kernel)]; exact ⟨rfl, rfl⟩))
    (fun os started H enc _ F => lifted os started H enc F)
theorem proved : Rows.SigCanonicalUptoSaid := over
end Go.Proofs.YtnohmijdpmelpaaGreat.sigCanonical
