/- ListPages: a page of names has just the items that the document says: over the seat's row ListPagesUptoSaid (what it reads is of bulk at most 1048576; the library's variable MaxLen holds whatever number); no other condition. -/
import Derived.Test.YtfkpdfpnpcdhaaaRows
import Derived.Test.YtfkpdfpnpcdhaaaG8
set_option maxRecDepth 100000
set_option linter.unusedVariables false
set_option linter.unusedSimpArgs false
set_option linter.unusedSectionVars false
namespace Go.Proofs.LP
open Go Go.Am Go.RowKit Go.ChangeShapes Go.WideShapes Go.ChangeAt Go.Proofs.Ytfkpdfpnpcdhaaa
/-- the variable MaxLen holds one number -/
theorem tab_of {W : World} (h : W.ShapedOpen Try.prog) : ∃ m, @TabIn (@maxTab ⟨m⟩) W := by
  obtain ⟨m, hm⟩ := Try.laysM143.s1_3 W h
  obtain ⟨cs, h1, h2, _⟩ := h.1 0 #[.int .i64 0] 3 (of_decide_eq_true (by kernel_rfl)) (by kernel_rfl)
  refine ⟨m, fun b c hb => ?_⟩
  have hb' : (if b = 0 then some #[Value.int .i64 m] else none) = some c := hb
  by_cases h0 : b = 0
  · subst h0
    rw [if_pos rfl] at hb'
    cases hb'
    refine ⟨3, (0, 0), ?_⟩
    rw [h1]
    have hm' : W.cell? ⟨0, 0, none⟩ = some (.int .i64 m) := hm
    simp only [World.cell?, h1] at hm'
    have h3 : cs.size = 1 := h2
    have : cs = #[.int .i64 m] := by
      match cs, h3, hm' with
      | ⟨[x]⟩, _, hm' => simp at hm'; subst hm'; rfl
    rw [this]
  · rw [if_neg h0] at hb'; cases hb'
/-- from a contract in a world of the row's shape to what the row asks -/
theorem lift_upto {os : Os} {f : FuncId} {fn : Func} {s : ChangeSpec} {H : Type} {enc : TypeId × Value → H} {conds : List PathCond} {F : Stop.Interp} (own : ownKnob Try.prog.godebug = none) (started : os.Started) (noInit : Try.prog.inits.idxOf? f = none) (hfn : Try.prog.funcs[f]? = some fn)
    (wit : ∃ (w : World) (tape : Tape) (i : Input), w.os = os ∧ (w.forCall tape i).Shaped Try.checked.prog ∧ i.vars = [] ∧ Input.okWide Try.checked.prog (w.forCall tape i) .any w.heap.size f i ∧
      (Rows.OpenSpec.upto s).pre6 enc Try.checked.prog fn conds false (w.forCall tape i).memory i.args ∧ ({} : Assume).holds Try.checked.prog (lone (Frame.enter Try.checked.prog f i.args .normal) [] (w.forCall tape i)))
    (con : ∀ (W : World) (base : Nat) (args : Array Value) (ds gs : List (DataW H)) (before : List MemPlace), (∀ (j : Nat) t v, fn.params[j]? = some t → args[j]? = some v → Value.okWide Try.prog W .any base t v) →
      DataW.Whole enc Try.prog fn.params.toList s.vars false W args.toList ds gs before → Rows.uptoSmall H (ds ++ gs) = true → W.ShapedOpen Try.prog →
      Calls Try.prog f args W fun e W' => ∃ v, e = .returned v ∧ s.post enc Try.prog fn false true false false W args v W') :
    ReturnsInHanded {} Try.checked os f .any ((Rows.OpenSpec.upto s).pre6 enc Try.prog fn conds false) (((Rows.OpenSpec.upto s).at F).post enc Try.prog fn false true false false) := by
  refine returnsInHanded_of_calls own started noInit wit fun w tape i _ shape _ ok pre _ => ?_
  obtain ⟨_, _, _, fn', hf', _, _, _, _, vals⟩ := ok
  cases Option.some.inj (hf'.symm.trans hfn)
  obtain ⟨ds, gs, before, whole, _, small⟩ := (OpenSpec.pre_some (s := Rows.OpenSpec.upto s) (k := Rows.uptoSmall) rfl conds false _ _).1 pre.1
  have whole' := DataW.Whole.of_heap (w' := w.forCall tape i) (by rfl) whole
  exact (con _ w.heap.size i.args ds gs before vals whole' small shape).mono fun e W' ⟨v, he, hp⟩ => by subst he; exact ChangeSpec.post_blind hp
end Go.Proofs.LP
namespace Go.Proofs.Ytfkpdfpnpcdhaaa
open Go.Am
theorem one_le {H : Type} (d : DataW H) : 1 ≤ Rows.uptoBulk d := by
  cases d with
  | lit l => cases l <;> simp [Rows.uptoBulk]
  | _ => simp [Rows.uptoBulk]
theorem length_le {H : Type} (l : List (DataW H)) : l.length ≤ Rows.uptoBulkAll l := by
  induction l with
  | nil => simp [Rows.uptoBulkAll]
  | cons x r ih => have := one_le x; simp only [Rows.uptoBulkAll, List.length_cons]; omega
theorem bulk_txts {H : Type} (l : List (List UInt8)) : (∀ x, x ∈ l → x.length ≤ Rows.uptoBulkAll (l.map fun s => (DataW.lit (.string s) : DataW H))) ∧ l.length ≤ Rows.uptoBulkAll (l.map fun s => (DataW.lit (.string s) : DataW H)) := by
  induction l with
  | nil => exact ⟨fun x hx => by simp at hx, by simp⟩
  | cons s l ih =>
    simp only [List.map_cons, Rows.uptoBulkAll, Rows.uptoBulk, List.length_cons]
    refine ⟨fun x hx => ?_, by omega⟩
    rcases List.mem_cons.1 hx with rfl | hx
    · omega
    · have := ih.1 x hx; omega
end Go.Proofs.Ytfkpdfpnpcdhaaa

namespace Go.Proofs.Ytfkpdfpnpcdhaaa.listPages
open Go.ChangeShapes Go.WideShapes Go.ChangeAt Go.RowKit Go.Am
theorem own : ownKnob Try.prog.godebug = none := by kernel_rfl
theorem contract (H : Type) (enc : TypeId × Value → H) (W : World) (base : Nat) (args : Array Value) (ds gs : List (DataW H)) (before : List MemPlace)
    (hval : ∀ (j : Nat) t v, Try.f8.params[j]? = some t → args[j]? = some v → Value.okWide Try.prog W .any base t v)
    (hW : DataW.Whole enc Try.prog Try.f8.params.toList Rows.listPagesSpec.vars false W args.toList ds gs before) (hk : Rows.uptoSmall H (ds ++ gs) = true) (hsh : W.ShapedOpen Try.prog) :
    Calls Try.prog 8 args W fun e W' => ∃ v, e = .returned v ∧ Rows.listPagesSpec.post enc Try.prog Try.f8 false true false false W args v W' := by
  have hW' := hW
  obtain ⟨p, q, hA0, hV, rfl, hfz, hnd⟩ := hW
  have hA : DataW.TrodAll enc Try.prog W 0 (fun _ => true) true Try.f8.params.toList args.toList ds p := hA0
  rw [Try.params8] at hA hval
  obtain ⟨v0, vs0, d0, ds0, p0, q0, hargs, rfl, rfl, h0, r0⟩ := trodAll_cons hA
  obtain ⟨v1, vs1, d1, ds1, p1, q1, rfl, rfl, rfl, h1, r1⟩ := trodAll_cons r0
  obtain ⟨rfl, rfl, rfl⟩ := trodAll_nil r1
  obtain rfl : args = #[v0, v1] := by cases args; simp_all
  obtain ⟨rfl, rfl⟩ := trodVars_none hV
  obtain ⟨l0, g0, e0⟩ := arg_strs Try.underlying29 Try.underlying9 (by kernel_rfl) (hval 0 29 v0 rfl rfl) h0
  obtain ⟨qa1, qb1, qc1, qd1, qe1, qf1, qm1, qk1, g1, rfl⟩ := LP.arg_query (hval 1 44 v1 rfl rfl) h1
  have hb := of_decide_eq_true hk
  simp only [List.append_nil, Rows.uptoBulkAll] at hb
  have hl0 : l0.length ≤ 1048576 ∧ ∀ x, x ∈ l0 → x.length ≤ 1048576 := by
    rcases e0 with ⟨rfl, rfl⟩ | ⟨sp, rfl⟩
    · exact ⟨by simp, fun x hx => by simp at hx⟩
    · obtain ⟨b1, b2⟩ := bulk_txts (H := H) l0
      simp only [Rows.uptoBulk] at hb
      exact ⟨by omega, fun x hx => by have := b1 x hx; omega⟩
  have hq1 : qb1.length ≤ 1048576 := by (try simp only [Rows.uptoBulk, Rows.uptoBulkAll] at hb); omega
  obtain ⟨m, hT⟩ := LP.tab_of hsh
  letI : LP.MM := ⟨m⟩
  refine ((LP.listPages_ok l0 qa1 qb1 qc1 qd1 qe1 qf1 qm1 qk1 hl0.1 hl0.2 hq1).law W hT [v0, v1] rfl (fun i c v k1 k2 => ?_)).mono fun e W' ⟨he, hg⟩ => ?_
  · match i, k1, k2 with
    | 0, k1, k2 => simp at k1 k2; subst k1; subst k2; exact ⟨g0, rfl⟩
    | 1, k1, k2 => simp at k1 k2; subst k1; subst k2; exact ⟨g1, rfl⟩
    | i + 2, k1, _ => simp at k1
  subst he
  exact ⟨_, rfl, post_law (by kernel_rfl) hW' rfl rfl rfl Try.underlying4 (by kernel_rfl) hg⟩
set_option maxRecDepth 100000 in
theorem lifted (os : Os) (started : os.Started) (H : Type) (enc : TypeId × Value → H) (F : Stop.Interp) :
    ReturnsInHanded {} Try.checked os 8 .any ((Rows.OpenSpec.upto Rows.listPagesSpec).pre6 enc Try.prog Try.f8 Rows.listPagesUptoRow.domain false) (((Rows.OpenSpec.upto Rows.listPagesSpec).at F).post enc Try.prog Try.f8 false true false false) := by
  refine LP.lift_upto own started (by kernel_rfl) Try.func8
    (OpenSpec.witness (enc := enc) (C := Try.checked) (s := Rows.OpenSpec.upto Rows.listPagesSpec) (k := Rows.uptoSmall) rfl false ⟨#[], #[.slice none 0 0, .agg #[.string ⟨#[]⟩, .string ⟨#[]⟩, .string ⟨#[]⟩, .string ⟨#[]⟩, .string ⟨#[]⟩, .string ⟨#[]⟩, .int .i64 0, .int .i64 0]], []⟩ 8 (by kernel_rfl) (by kernel_rfl) (by kernel_rfl)
      (x := ([.nil, .agg [.lit (.string []), .lit (.string []), .lit (.string []), .lit (.string []), .lit (.string []), .lit (.string []), .lit (.int .i64 0), .lit (.int .i64 0)]], [], [])) (by kernel_rfl) rfl (by kernel_rfl)) ?_
  exact contract H enc
theorem over : Rows.listPagesUptoRow.holds Try.pinned (Rows.OpenSpec.upto Rows.listPagesSpec) :=
  OpenClaim.holds_of_cond 8 Try.f8 rfl rfl rfl rfl rfl rfl rfl ⟨rfl, rfl, rfl, rfl, rfl⟩ rfl rfl rfl rfl rfl (by kernel_rfl) Try.func8 (by kernel_rfl)
    (of_decide_eq_true (by kernel_rfl)) (by unfold Func.isWrapper; first | (rw [if_pos (by decide +kernel)]; kernel_rfl) | (rw [if_neg (by decide +kernel)]; exact ⟨rfl, rfl⟩))
    (fun os started H enc _ F => lifted os started H enc F)
theorem proved : Rows.ListPagesUptoSaid := over
end Go.Proofs.Ytfkpdfpnpcdhaaa.listPages
