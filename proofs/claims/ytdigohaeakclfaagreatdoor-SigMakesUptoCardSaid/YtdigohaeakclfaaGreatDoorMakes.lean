/- The law SigMakes over the machine turned to its card, its package-level variables laid as the program's text lays them. The condition: the bulk of what is handed in is at most 1048576. -/
import Derived.Test.YtdigohaeakclfaaGreatDoorCards
import Derived.Test.YtdigohaeakclfaaGreatDoorTie
import Derived.Deep.DeepHandedRow
import Derived.Lib.LaidTab
import Derived.Stop.LaidErr
import Derived.Test.YtdigohaeakclfaaGreatDoorMa23
import Derived.Test.YtdigohaeakclfaaGreatDoorMa21
set_option maxRecDepth 100000
set_option linter.unusedVariables false
set_option linter.unusedSimpArgs false
namespace Go.Proofs.YtdigohaeakclfaaGreatDoor
open Go.ChangeShapes Go.WideShapes Go.ChangeAt Go.RowKit Go.Am
theorem gT : Tryz.prog.globalNamed "internal/strconv.uint64pow10" = some 1 := by kernel_rfl
theorem cells35 : Tryz.prog.cellsOf 166 = 1 := by kernel_rfl
theorem cellsT : Tryz.prog.cellsOf 201 = 20 := by kernel_rfl
theorem gTy : (Tryz.prog.globals[1]?).map (·.type) = some 201 := by kernel_rfl
theorem tabIn {W : World} (h : laidMetH Tryz.prog [("math/bits.deBruijn32tab", Rows.laid_math_bits_deBruijn32tab), ("math/bits.deBruijn64tab", Rows.laid_math_bits_deBruijn64tab), ("internal/strconv.uint64pow10", Rows.laid_internal_strconv_uint64pow10)] W) : TabIn W := by
  have h1 : laidMet Tryz.prog [("math/bits.deBruijn32tab", Rows.laid_math_bits_deBruijn32tab), ("math/bits.deBruijn64tab", Rows.laid_math_bits_deBruijn64tab), ("internal/strconv.uint64pow10", Rows.laid_internal_strconv_uint64pow10)] W := h
  have ht : Lib.TabIs Tryz.prog W "internal/strconv.uint64pow10" .u64 Lib.pow10Tab :=
    Lib.tabIs_of_head (rest := []) gT gTy Tryz.underlying201 Tryz.underlying166 cells35 cellsT (show laidMet Tryz.prog (("internal/strconv.uint64pow10", Lib.tabData .u64 Lib.pow10Tab) :: []) W from laidMet.tail (laidMet.tail h1))
  intro b cs hk
  simp only [Tab.k] at hk
  split at hk
  · rename_i hb
    subst hb
    simp only [Option.some.injEq] at hk
    subst hk
    unfold Lib.TabIs World.var? at ht
    rw [gT] at ht
    simp only [Option.bind_some] at ht
    split at ht
    · rename_i c e fz hh
      simp only [Option.some.injEq] at ht
      exact ⟨e, fz, by rw [hh, ht]⟩
    · simp at ht
  · simp at hk
noncomputable def laidWorld (os : Os) : World :=
  let w := World.holding Tryz.prog os ⟨#[], #[], []⟩
  let lay := fun (o : Obj) (cs : Array Value) => match o with
    | .cells _ t frozen => Obj.cells cs t frozen
    | o => o
  { w with heap := ((w.heap.modify 1 fun o => lay o #[.int .u64 1, .int .u64 10, .int .u64 100, .int .u64 1000, .int .u64 10000, .int .u64 100000, .int .u64 1000000, .int .u64 10000000, .int .u64 100000000, .int .u64 1000000000, .int .u64 10000000000, .int .u64 100000000000, .int .u64 1000000000000, .int .u64 10000000000000, .int .u64 100000000000000, .int .u64 1000000000000000, .int .u64 10000000000000000, .int .u64 100000000000000000, .int .u64 1000000000000000000, .int .u64 10000000000000000000]).modify 2 fun o => lay o #[.int .u8 0, .int .u8 1, .int .u8 28, .int .u8 2, .int .u8 29, .int .u8 14, .int .u8 24, .int .u8 3, .int .u8 30, .int .u8 22, .int .u8 20, .int .u8 15, .int .u8 25, .int .u8 17, .int .u8 4, .int .u8 8, .int .u8 31, .int .u8 27, .int .u8 13, .int .u8 23, .int .u8 21, .int .u8 19, .int .u8 16, .int .u8 7, .int .u8 26, .int .u8 12, .int .u8 18, .int .u8 6, .int .u8 11, .int .u8 5, .int .u8 10, .int .u8 9]).modify 3 fun o => lay o #[.int .u8 0, .int .u8 1, .int .u8 56, .int .u8 2, .int .u8 57, .int .u8 49, .int .u8 28, .int .u8 3, .int .u8 61, .int .u8 58, .int .u8 42, .int .u8 50, .int .u8 38, .int .u8 29, .int .u8 17, .int .u8 4, .int .u8 62, .int .u8 47, .int .u8 59, .int .u8 36, .int .u8 45, .int .u8 43, .int .u8 51, .int .u8 22, .int .u8 53, .int .u8 39, .int .u8 33, .int .u8 30, .int .u8 24, .int .u8 18, .int .u8 12, .int .u8 5, .int .u8 63, .int .u8 55, .int .u8 48, .int .u8 27, .int .u8 60, .int .u8 41, .int .u8 37, .int .u8 16, .int .u8 46, .int .u8 35, .int .u8 44, .int .u8 21, .int .u8 52, .int .u8 32, .int .u8 23, .int .u8 11, .int .u8 54, .int .u8 26, .int .u8 40, .int .u8 15, .int .u8 34, .int .u8 20, .int .u8 31, .int .u8 10, .int .u8 25, .int .u8 14, .int .u8 19, .int .u8 9, .int .u8 13, .int .u8 8, .int .u8 7, .int .u8 6] }

section
variable {H : Type} {enc : TypeId × Value → H} {W : World} {base : Nat}
theorem arg_key {r : Reach} {v : Value} {d : DataW H} {p : List MemPlace} (hval : Value.okWide Tryz.prog W r base 27 v) (h : DataW.Trod enc Tryz.prog W 0 (fun _ => true) true 27 v d p) :
    ∃ k : Hd, VR (G0 W) W [] (.agg [.str k.1, .str k.2]) v ∧ d = .agg [.lit (.string k.1), .lit (.string k.2)] := by
  obtain ⟨fs, hu, hfs, f0, f1, h0, h1, t0, t1, o0, o1⟩ := u76
  have hv2 := hval
  simp only [Value.okWide, hu] at hv2
  obtain ⟨cs, rfl, hsz, ts, hts, _, hrow⟩ := hv2
  obtain ⟨fuel, hf⟩ := h
  obtain ⟨a, b, hcs, hx⟩ := trod_key hf
  have hcs' : cs = #[.string a, .string b] := by
    apply Array.ext'
    simpa [Value.cells] using hcs
  subst hcs'
  refine ⟨(a.data.toList, b.data.toList), ?_, hx⟩
  exact vr_hd (G0 W) W (a.data.toList, b.data.toList)
end
end Go.Proofs.YtdigohaeakclfaaGreatDoor
namespace Go.Proofs.YtdigohaeakclfaaGreatDoor.sigMakes
open Go.ChangeShapes Go.WideShapes Go.ChangeAt Go.RowKit Go.Am
theorem own : ownKnob Tryz.prog.godebug = none := by kernel_rfl
theorem contract (H : Type) (enc : TypeId × Value → H) (W : World) (base : Nat) (args : Array Value) (ds gs : List (DataW H)) (before : List MemPlace)
    (hval : ∀ (j : Nat) t v, Tryz.f3.params[j]? = some t → args[j]? = some v → Value.okWide Tryz.prog W .any base t v)
    (hW : DataW.Whole enc Tryz.prog Tryz.f3.params.toList Rows.sigMakesSpec.vars false W args.toList ds gs before) (hk : Rows.uptoSmall H (ds ++ gs) = true) (hL : laidMetH Tryz.prog Rows.sigMakesUptoRow.laid W) :
    Calls Tryz.prog 3 args W fun e W' => ∃ v, e = .returned v ∧ Rows.sigMakesSpec.post enc Tryz.prog Tryz.f3 false true false false W args v W' := by
  have hW' := hW
  obtain ⟨p, q, hA0, hV, rfl, hfz, hnd⟩ := hW
  have hA : DataW.TrodAll enc Tryz.prog W 0 (fun _ => true) true Tryz.f3.params.toList args.toList ds p := hA0
  rw [Tryz.params3] at hA hval
  obtain ⟨v0, vs0, d0, ds0, p0, q0, hargs, rfl, rfl, h0, r0⟩ := trodAll_cons hA
  obtain ⟨v1, vs1, d1, ds1, p1, q1, rfl, rfl, rfl, h1, r1⟩ := trodAll_cons r0
  obtain ⟨v2, vs2, d2, ds2, p2, q2, rfl, rfl, rfl, h2, r2⟩ := trodAll_cons r1
  obtain ⟨v3, vs3, d3, ds3, p3, q3, rfl, rfl, rfl, h3, r3⟩ := trodAll_cons r2
  obtain ⟨v4, vs4, d4, ds4, p4, q4, rfl, rfl, rfl, h4, r4⟩ := trodAll_cons r3
  obtain ⟨rfl, rfl, rfl⟩ := trodAll_nil r4
  obtain rfl : args = #[v0, v1, v2, v3, v4] := by cases args; simp_all
  obtain ⟨rfl, rfl⟩ := trodVars_none hV
  obtain ⟨rm0, rt0, rh0, rb0, dh0, db0, g0, rfl, e0, hq0⟩ := arg_req2 (hval 0 25 v0 rfl rfl) h0
  obtain ⟨k1, g1, rfl⟩ := arg_key (hval 1 27 v1 rfl rfl) h1
  obtain ⟨n2, rfl, rfl, w2, g2⟩ := arg_int Tryz.underlying3 (hval 2 3 v2 rfl rfl) h2
  obtain ⟨l3, e3, rfl, g3⟩ := arg_str Tryz.underlying9 (hval 3 9 v3 rfl rfl) h3
  obtain ⟨n4, rfl, rfl, w4, g4⟩ := arg_int Tryz.underlying3 (hval 4 3 v4 rfl rfl) h4
  have hb := of_decide_eq_true hk
  simp only [List.append_nil, Rows.uptoBulkAll] at hb
  have hh0 : hdW rh0 ≤ Rows.uptoBulk dh0 := by
    rcases e0 with ⟨h, hl⟩ | ⟨sp, h⟩
    · subst hl; simp [hdW]
    · have := bulk_hds (H := H) rh0
      rw [h]; simp only [Rows.uptoBulk]; omega
  have hn2 : -9223372036854775808 ≤ n2 ∧ n2 < 9223372036854775808 := by
    simp [Lit.wf, IntKind.min, IntKind.max, IntKind.signed, IntKind.bits] at w2
    omega
  have hl3 : l3.length ≤ 1048576 := by (try simp only [Rows.uptoBulk] at hb); omega
  have hn4 : -9223372036854775808 ≤ n4 ∧ n4 < 9223372036854775808 := by
    simp [Lit.wf, IntKind.min, IntKind.max, IntKind.signed, IntKind.bits] at w4
    omega
  have hB : SB rm0 rt0 rh0 rb0 k1 n2 l3 := ⟨by simp only [Rows.uptoBulk, Rows.uptoBulkAll] at hb; omega, by omega, by omega⟩
  have hB2 : PB rm0 rt0 rh0 rb0 k1 n2 n4 := ⟨by simp only [Rows.uptoBulk, Rows.uptoBulkAll] at hb; omega, by omega, by omega, by omega, by omega⟩
  refine ((sigMakes_ok rm0 rt0 rh0 rb0 k1 n2 l3 n4 hB hB2).law W (tabIn hL) [v0, v1, .int .i64 n2, v3, .int .i64 n4] rfl (fun i c v k1 k2 => ?_)).mono fun e W' ⟨he, hg⟩ => ?_
  · match i, k1, k2 with
    | 0, k1, k2 => simp at k1 k2; subst k1; subst k2; exact ⟨g0, rfl⟩
    | 1, k1, k2 => simp at k1 k2; subst k1; subst k2; exact ⟨g1, rfl⟩
    | 2, k1, k2 => simp at k1 k2; subst k1; subst k2; exact ⟨g2, rfl⟩
    | 3, k1, k2 => simp at k1 k2; subst k1; subst k2; exact ⟨g3, rfl⟩
    | 4, k1, k2 => simp at k1 k2; subst k1; subst k2; exact ⟨g4, rfl⟩
    | i + 5, k1, _ => simp at k1
  subst he
  exact ⟨_, rfl, post_law (by kernel_rfl) hW' rfl rfl rfl Tryz.underlying4 (by kernel_rfl) hg⟩
theorem laid_met (os : Os) : laidMet Tryz.prog Rows.sigMakesUptoRow.laid ((laidWorld os).forCall (fun _ _ => 0) ⟨#[], #[.agg #[.string ⟨#[]⟩, .string ⟨#[]⟩, .slice none 0 0, .slice none 0 0], .agg #[.string ⟨#[]⟩, .string ⟨#[]⟩], .int .i64 0, .string ⟨#[]⟩, .int .i64 0], []⟩).memory :=
  laidMet_of_run' 8 (by kernel_rfl) (by kernel_rfl)
theorem reads (os : Os) {H : Type} (enc : TypeId × Value → H) : ∃ places, DataW.whole enc Tryz.prog ((laidWorld os).forCall (fun _ _ => 0) ⟨#[], #[.agg #[.string ⟨#[]⟩, .string ⟨#[]⟩, .slice none 0 0, .slice none 0 0], .agg #[.string ⟨#[]⟩, .string ⟨#[]⟩], .int .i64 0, .string ⟨#[]⟩, .int .i64 0], []⟩).memory Tryz.f3.params.toList Rows.sigMakesSpec.vars false (#[.agg #[.string ⟨#[]⟩, .string ⟨#[]⟩, .slice none 0 0, .slice none 0 0], .agg #[.string ⟨#[]⟩, .string ⟨#[]⟩], .int .i64 0, .string ⟨#[]⟩, .int .i64 0] : Array Value).toList 8 = some ([.agg [.lit (.string []), .lit (.string []), .nil, .nil], .agg [.lit (.string []), .lit (.string [])], .lit (.int .i64 0), .lit (.string []), .lit (.int .i64 0)], [], places) :=
  ⟨[], by kernel_rfl⟩
set_option maxRecDepth 100000 in
theorem lifted (os : Os) (started : os.Started) (H : Type) (enc : TypeId × Value → H) (F : Stop.Interp) :
    ReturnsInHanded {} Tryz.checked os 3 .any ((Rows.OpenSpec.upto Rows.sigMakesSpec).preRow enc Tryz.prog Tryz.f3 Rows.sigMakesUptoRow.domain false Rows.sigMakesUptoRow.laid) (((Rows.OpenSpec.upto Rows.sigMakesSpec).at F).post enc Tryz.prog Tryz.f3 false true false false) := by
  obtain ⟨places, hx⟩ := reads os enc
  refine returnsInHanded_of_row (C := Tryz.checked) (s := Rows.OpenSpec.upto Rows.sigMakesSpec) own started (by kernel_rfl) Tryz.func3
    (witness_row_at (enc := enc) (C := Tryz.checked) false (laidWorld os) #[.agg #[.string ⟨#[]⟩, .string ⟨#[]⟩, .slice none 0 0, .slice none 0 0], .agg #[.string ⟨#[]⟩, .string ⟨#[]⟩], .int .i64 0, .string ⟨#[]⟩, .int .i64 0] rfl (by kernel_rfl) (by kernel_rfl) (by kernel_rfl)
      (OpenSpec.preRow_of_cond 8 hx (by kernel_rfl) (fun k hk => by cases hk; kernel_rfl) (by kernel_rfl) (laid_met os))) ?_
  intro W base args ds gs before hval hW _ hcond _ hL _ _
  exact contract H enc W base args ds gs before hval hW (hcond _ rfl) hL
theorem saidUpto : Rows.SigMakesUptoSaid :=
  OpenClaim.holds_of_cond 3 Tryz.f3 rfl rfl rfl rfl rfl rfl rfl ⟨rfl, rfl, rfl, rfl, rfl⟩ rfl rfl rfl rfl rfl (by kernel_rfl) Tryz.func3 (by kernel_rfl)
    (of_decide_eq_true (by kernel_rfl)) (by unfold Func.isWrapper; first | (rw [if_pos (by decide +kernel)]; kernel_rfl) | (rw [if_neg (by decide +kernel)]; exact ⟨rfl, rfl⟩))
    (fun os started H enc _ F => by rw [OpenClaim.pre_eq_preRow]; exact lifted os started H enc F)
theorem plain (f : FuncId) (fn : Func) (hf : Tryz.pinned.checked.prog.funcNamed "stowage/stowagelaw18.SigMakes" = some f) (hfn : Tryz.pinned.checked.prog.funcs[f]? = some fn) :
    false = Tryz.pinned.checked.prog.looks [] ∧ ∀ (j : Nat) t, fn.params[j]? = some t → Tryz.pinned.checked.prog.wantsStandIn t = false := by
  obtain rfl : f = 3 := Option.some.inj ((show Tryz.prog.funcNamed "stowage/stowagelaw18.SigMakes" = some 3 by kernel_rfl).symm.trans hf) |>.symm
  obtain rfl : fn = Tryz.f3 := (Option.some.inj (Tryz.func3.symm.trans hfn)).symm
  refine ⟨by kernel_rfl, fun j t ht => ?_⟩
  rw [Tryz.params3] at ht
  have hm := Array.mem_of_getElem? ht
  simp only [List.mem_toArray, List.mem_cons, List.not_mem_nil, or_false] at hm
  rcases hm with rfl | rfl | rfl | rfl | rfl
  · exact (show Tryz.prog.wantsStandIn 25 = false by kernel_rfl)
  · exact (show Tryz.prog.wantsStandIn 27 = false by kernel_rfl)
  · exact (show Tryz.prog.wantsStandIn 3 = false by kernel_rfl)
  · exact (show Tryz.prog.wantsStandIn 9 = false by kernel_rfl)
  · exact (show Tryz.prog.wantsStandIn 3 = false by kernel_rfl)
theorem proved : Rows.SigMakesUptoCardSaid :=
  Claim7.holds_tied_plain_at .later [] _ _ _ _ saidUpto (fun _ h => by cases h) (by kernel_rfl) (fun _ h => by cases h) sigMakesUpto_row_tie rfl ⟨rfl, rfl⟩ (by kernel_rfl) rfl plain (by kernel_rfl)
end Go.Proofs.YtdigohaeakclfaaGreatDoor.sigMakes
