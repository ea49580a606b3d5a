/- SigVerifies: any request is taken or refused, with the right error, just as the document says; up to a bulk of 1048576. -/
import Derived.Test.YtnohmijdpmelpaaGreatCve
import Derived.Test.YtnohmijdpmelpaaGreatArh
set_option maxRecDepth 100000
set_option linter.unusedVariables false
set_option linter.unusedSimpArgs false
namespace Go.Proofs.YtnohmijdpmelpaaGreat
open Go Go.Am Go.Am.Runs
theorem same18_ok (a b c d e f : List UInt8) : FnOK Tryz.prog 16 [.agg [.str a, .str b, .str c, .str d, .bs e false, .str f], .agg [.str a, .str b, .str c, .str d, .bs e false, .str f]] [] (.bool true) [] := by
  refine FnOK.of_runs Tryz.func16 rfl (Nat.le_of_ble_eq_true rfl) ?_
  refine seq (reg [] [] rfl (by decide) ?_)
  refine seq (region ?_)
  refine rest [(4, { res := .bool true }), (10, { res := .bool true }), (17, { res := .bool true }), (24, { res := .bool true }), (33, { res := .bool true }), (40, { res := .bool true })] [] rfl (by and_intros <;> first | exact ⟨⟩ | exact zl rfl | (refine congrArg AV.bool ?_; simp)) ?_
  refine drop 0 (Nat.zero_le _) rfl ?_
  exact retH Tryz.func16 rfl rfl (by rfl) (by rfl)
theorem sv_no (m t : List UInt8) (hd : List Hd) (body : List UInt8) (keys : List Hd) (now : Int) (b : VB m t hd body keys now) {e : Int} (hr : verC m t hd body keys now = .inl e) : FnOK Tryz.prog 5 [.agg [.str m, .str t, .sl 2 hd.length (hdEl hd) false, .bs body false], .sl 2 keys.length (hdEl keys) false, .int .i64 now] [] (.bool true) [] := by
  refine FnOK.of_runs Tryz.func5 rfl (Nat.le_of_ble_eq_true rfl) ?_
  refine seq (reg [] [] rfl (by decide) ?_)
  refine seq (reg [(3, { res := .tup [.agg [.str [], .str [], .str [], .str [], .bs [] false, .str []], .int .i64 e] })] [1, 2] rfl (by and_intros <;> first | exact ⟨⟩ | exact zl rfl | (have h0 := verify_ok m t hd body keys now b; rw [hr] at h0; exact h0)) ?_)
  refine seq (reg [(3, { res := .tup [.agg [.str [], .str [], .str [], .str [], .bs [] false, .str []], .int .i64 e] })] [1, 2] rfl (by and_intros <;> first | exact ⟨⟩ | exact zl rfl | (have h0 := rverify_ok m t hd body keys now b; rw [hr] at h0; exact h0)) ?_)
  refine seq (region ?_)
  refine rest [(2, { res := .bool true }), (6, { res := .bool true }), (9, { res := .bool true })] [4, 5] rfl (by and_intros <;> first | exact ⟨⟩ | exact zl rfl | exact awake18_ok | exact same18_ok [] [] [] [] [] [] | (refine congrArg AV.bool ?_; simp)) ?_
  refine drop 0 (Nat.zero_le _) rfl ?_
  exact retH Tryz.func5 rfl rfl (by rfl) (by rfl)
theorem sv_yes (m t : List UInt8) (hd : List Hd) (body : List UInt8) (keys : List Hd) (now : Int) (b : VB m t hd body keys now) {w : Wh} (hr : verC m t hd body keys now = .inr w) : FnOK Tryz.prog 5 [.agg [.str m, .str t, .sl 2 hd.length (hdEl hd) false, .bs body false], .sl 2 keys.length (hdEl keys) false, .int .i64 now] [] (.bool true) [] := by
  refine FnOK.of_runs Tryz.func5 rfl (Nat.le_of_ble_eq_true rfl) ?_
  refine seq (reg [] [] rfl (by decide) ?_)
  refine seq (reg [(3, { res := .tup [.agg [.str w.id, .str w.date, .str w.scope, .str w.sig, .bs w.key false, .str w.pay], .int .i64 0] })] [1, 2] rfl (by and_intros <;> first | exact ⟨⟩ | exact zl rfl | (have h0 := verify_ok m t hd body keys now b; rw [hr] at h0; exact h0)) ?_)
  refine seq (reg [(3, { res := .tup [.agg [.str w.id, .str w.date, .str w.scope, .str w.sig, .bs w.key false, .str w.pay], .int .i64 0] })] [1, 2] rfl (by and_intros <;> first | exact ⟨⟩ | exact zl rfl | (have h0 := rverify_ok m t hd body keys now b; rw [hr] at h0; exact h0)) ?_)
  refine seq (region ?_)
  refine rest [(2, { res := .bool true }), (6, { res := .bool true }), (9, { res := .bool true })] [4, 5] rfl (by and_intros <;> first | exact ⟨⟩ | exact zl rfl | exact awake18_ok | exact same18_ok w.id w.date w.scope w.sig w.key w.pay | (refine congrArg AV.bool ?_; simp)) ?_
  refine drop 0 (Nat.zero_le _) rfl ?_
  exact retH Tryz.func5 rfl rfl (by rfl) (by rfl)
theorem sigVerifies_ok (m t : List UInt8) (hd : List Hd) (body : List UInt8) (keys : List Hd) (now : Int) (b : VB m t hd body keys now) : FnOK Tryz.prog 5 [.agg [.str m, .str t, .sl 2 hd.length (hdEl hd) false, .bs body false], .sl 2 keys.length (hdEl keys) false, .int .i64 now] [] (.bool true) [] := by
  cases h : verC m t hd body keys now with
  | inl e => exact sv_no m t hd body keys now b h
  | inr w => exact sv_yes m t hd body keys now b h
end Go.Proofs.YtnohmijdpmelpaaGreat
namespace Go.Proofs.YtnohmijdpmelpaaGreat.sigVerifies
open Go.ChangeShapes Go.WideShapes Go.ChangeAt Go.RowKit Go.Am
theorem own : ownKnob Tryz.prog.godebug = none := by kernel_rfl
theorem contract (H : Type) (enc : TypeId × Value → H) (W : World) (base : Nat) (args : Array Value) (ds gs : List (DataW H)) (before : List MemPlace)
    (hval : ∀ (j : Nat) t v, Tryz.f5.params[j]? = some t → args[j]? = some v → Value.okWide Tryz.prog W .any base t v)
    (hW : DataW.Whole enc Tryz.prog Tryz.f5.params.toList Rows.sigVerifiesSpec.vars false W args.toList ds gs before) (hk : Rows.uptoSmall H (ds ++ gs) = true) :
    Calls Tryz.prog 5 args W fun e W' => ∃ v, e = .returned v ∧ Rows.sigVerifiesSpec.post enc Tryz.prog Tryz.f5 false true false false W args v W' := by
  have hW' := hW
  obtain ⟨p, q, hA0, hV, rfl, hfz, hnd⟩ := hW
  have hA : DataW.TrodAll enc Tryz.prog W 0 (fun _ => true) true Tryz.f5.params.toList args.toList ds p := hA0
  rw [Tryz.params5] at hA hval
  obtain ⟨v0, vs0, d0, ds0, p0, q0, hargs, rfl, rfl, h0, r0⟩ := trodAll_cons hA
  obtain ⟨v1, vs1, d1, ds1, p1, q1, rfl, rfl, rfl, h1, r1⟩ := trodAll_cons r0
  obtain ⟨v2, vs2, d2, ds2, p2, q2, rfl, rfl, rfl, h2, r2⟩ := trodAll_cons r1
  obtain ⟨rfl, rfl, rfl⟩ := trodAll_nil r2
  obtain rfl : args = #[v0, v1, v2] := by cases args; simp_all
  obtain ⟨rfl, rfl⟩ := trodVars_none hV
  obtain ⟨rm0, rt0, rh0, rb0, dh0, db0, g0, rfl, e0, hq0⟩ := arg_req2 (hval 0 25 v0 rfl rfl) h0
  obtain ⟨l1, g1, e1⟩ := arg_keys (hval 1 37 v1 rfl rfl) h1
  obtain ⟨n2, rfl, rfl, w2, g2⟩ := arg_int Tryz.underlying3 (hval 2 3 v2 rfl rfl) h2
  have hb := of_decide_eq_true hk
  simp only [List.append_nil, Rows.uptoBulkAll] at hb
  have hh0 : hdW rh0 ≤ Rows.uptoBulk dh0 := by
    rcases e0 with ⟨h, hl⟩ | ⟨sp, h⟩
    · subst hl; simp [hdW]
    · have := bulk_hds (H := H) rh0
      rw [h]; simp only [Rows.uptoBulk]; omega
  have hl1 : hdW l1 ≤ Rows.uptoBulk d1 := by
    rcases e1 with ⟨h, hl⟩ | ⟨sp, h⟩
    · subst hl; simp [hdW]
    · have := bulk_hds (H := H) l1
      rw [h]; simp only [Rows.uptoBulk]; omega
  have hn2 : -9223372036854775808 ≤ n2 ∧ n2 < 9223372036854775808 := by
    simp [Lit.wf, IntKind.min, IntKind.max, IntKind.signed, IntKind.bits] at w2
    omega
  have hB : VB rm0 rt0 rh0 rb0 l1 n2 := ⟨by simp only [Rows.uptoBulk, Rows.uptoBulkAll] at hb; omega, hn2.1, by omega⟩
  refine ((sigVerifies_ok rm0 rt0 rh0 rb0 l1 n2 hB).law W (fun _ _ h => by cases h) [v0, v1, .int .i64 n2] rfl (fun i c v k1 k2 => ?_)).mono fun e W' ⟨he, hg⟩ => ?_
  · match i, k1, k2 with
    | 0, k1, k2 => simp at k1 k2; subst k1; subst k2; exact ⟨g0, rfl⟩
    | 1, k1, k2 => simp at k1 k2; subst k1; subst k2; exact ⟨g1, rfl⟩
    | 2, k1, k2 => simp at k1 k2; subst k1; subst k2; exact ⟨g2, rfl⟩
    | i + 3, k1, _ => simp at k1
  subst he
  exact ⟨_, rfl, post_law (by kernel_rfl) hW' rfl rfl rfl Tryz.underlying4 (by kernel_rfl) hg⟩
set_option maxRecDepth 100000 in
theorem lifted (os : Os) (started : os.Started) (H : Type) (enc : TypeId × Value → H) (F : Stop.Interp) :
    ReturnsInHanded {} Tryz.checked os 5 .any ((Rows.OpenSpec.upto Rows.sigVerifiesSpec).pre6 enc Tryz.prog Tryz.f5 Rows.sigVerifiesUptoRow.domain false) (((Rows.OpenSpec.upto Rows.sigVerifiesSpec).at F).post enc Tryz.prog Tryz.f5 false true false false) := by
  refine returnsInHanded_of_cond (C := Tryz.checked) (s := Rows.OpenSpec.upto Rows.sigVerifiesSpec) (k := Rows.uptoSmall) rfl own started (by kernel_rfl) Tryz.func5
    (OpenSpec.witness (enc := enc) (C := Tryz.checked) (s := Rows.OpenSpec.upto Rows.sigVerifiesSpec) (k := Rows.uptoSmall) rfl false ⟨#[], #[.agg #[.string ⟨#[]⟩, .string ⟨#[]⟩, .slice none 0 0, .slice none 0 0], .slice none 0 0, .int .i64 0], []⟩ 8 (by kernel_rfl) (by kernel_rfl) (by kernel_rfl)
      (x := ([.agg [.lit (.string []), .lit (.string []), .nil, .nil], .nil, .lit (.int .i64 0)], [], [])) (by kernel_rfl) rfl (by kernel_rfl)) ?_
  intro W base args ds gs before hval hW _ hk _
  exact contract H enc W base args ds gs before hval hW hk
theorem over : Rows.sigVerifiesUptoRow.holds Tryz.pinned (Rows.OpenSpec.upto Rows.sigVerifiesSpec) :=
  OpenClaim.holds_of_cond 5 Tryz.f5 rfl rfl rfl rfl rfl rfl rfl ⟨rfl, rfl, rfl, rfl, rfl⟩ rfl rfl rfl rfl rfl (by kernel_rfl) Tryz.func5 (by kernel_rfl)
    (of_decide_eq_true (by kernel_rfl)) (by unfold Func.isWrapper; first | (rw [if_pos (by decide +kernel)]; kernel_rfl) | (rw [if_neg (by decide +kernel)]; exact ⟨rfl, rfl⟩))
    (fun os started H enc _ F => lifted os started H enc F)
theorem proved : Rows.SigVerifiesUptoSaid := over
end Go.Proofs.YtnohmijdpmelpaaGreat.sigVerifies
