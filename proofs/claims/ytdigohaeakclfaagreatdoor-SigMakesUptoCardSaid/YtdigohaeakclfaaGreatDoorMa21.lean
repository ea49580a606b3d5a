/- Keys that come in; a request whose body is bounded too. -/
import Derived.Test.YtdigohaeakclfaaGreatDoorMa19
set_option maxRecDepth 100000
set_option linter.unusedVariables false
set_option linter.unusedSimpArgs false
set_option linter.unusedSectionVars false
namespace Go.Proofs.YtdigohaeakclfaaGreatDoor
open Go Go.Am Go.RowKit Go.ChangeShapes Go.WideShapes Go.ChangeAt
variable {H : Type} {enc : TypeId × Value → H} {W : World} {base : Nat}
theorem one_le {H : Type} (d : DataW H) : 1 ≤ Rows.uptoBulk d := by
  cases d with
  | lit l => cases l <;> simp [Rows.uptoBulk]
  | _ => simp [Rows.uptoBulk]
theorem length_le {H : Type} (l : List (DataW H)) : l.length ≤ Rows.uptoBulkAll l := by
  induction l with
  | nil => simp [Rows.uptoBulkAll]
  | cons x r ih => have := one_le x; simp only [Rows.uptoBulkAll, List.length_cons]; omega
theorem u76 : ∃ fs : Array Field, Tryz.prog.underlying 27 = some (.struct fs) ∧ fs.size = 2 ∧ (∃ f0 f1, fs[0]? = some f0 ∧ fs[1]? = some f1 ∧ f0.type = 9 ∧ f1.type = 9 ∧ f0.offset = 0 ∧ f1.offset = 1) :=
  ⟨_, Tryz.underlying27, rfl, _, _, rfl, rfl, rfl, rfl, rfl, rfl⟩
theorem cs76 : Tryz.prog.cellsOf 27 = 2 := by kernel_rfl
/-- a key, read -/
theorem trod_key {n : Nat} {cs : List Value} {x : DataW H × List MemPlace} (h : DataW.trod enc Tryz.prog W 0 (fun _ => true) true n 27 cs = some x) : ∃ a b : ByteArray, cs = [.string a, .string b] ∧ x.1 = hdD (a.data.toList, b.data.toList) := by
  obtain ⟨fs, hu, hfs, f0, f1, h0, h1, t0, t1, o0, o1⟩ := u76
  obtain ⟨xs, m, rfl, hx, hl, hxl, hfld⟩ := DataW.trod_struct hu h
  rw [cs76] at hl
  rw [hfs] at hxl
  match cs, hl, hfld with
  | [c0, c1], _, hfld =>
    match xs, hxl, hx, hfld with
    | [x0, x1], _, hx, hfld =>
      have e0 := hfld 0 f0 h0
      have e1 := hfld 1 f1 h1
      rw [t0, o0, cs9] at e0
      rw [t1, o1, cs9] at e1
      obtain ⟨s0, q0, r0, _⟩ := DataW.trod_string Tryz.underlying9 (show DataW.trod enc Tryz.prog W 0 (fun _ => true) true m 9 [c0] = some x0 from e0)
      obtain ⟨s1, q1, r1, _⟩ := DataW.trod_string Tryz.underlying9 (show DataW.trod enc Tryz.prog W 0 (fun _ => true) true m 9 [c1] = some x1 from e1)
      simp only [List.cons.injEq, and_true] at q0 q1
      subst q0 q1
      subst r0 r1
      exact ⟨s0, s1, rfl, by rw [hx]; rfl⟩
theorem arg_req2 {r : Reach} {v : Value} {d : DataW H} {p : List MemPlace} (hval : Value.okWide Tryz.prog W r base 25 v) (h : DataW.Trod enc Tryz.prog W 0 (fun _ => true) true 25 v d p) :
    ∃ (m t : List UInt8) (hd : List Hd) (body : List UInt8) (dh db : DataW H), VR (G0 W) W [] (.agg [.str m, .str t, .sl 2 hd.length (hdEl hd) false, .bs body false]) v ∧ d = .agg [.lit (.string m), .lit (.string t), dh, db] ∧
      ((dh = .nil ∧ hd = []) ∨ ∃ sp, dh = .slice (hd.map hdD) sp) ∧ body.length ≤ Rows.uptoBulk db := by
  obtain ⟨fs, hu, hfs, f0, f1, f2, f3, h0, h1, h2, h3, t0, t1, t2, t3, o0, o1, o2, o3⟩ := u25
  have hv2 := hval
  simp only [Value.okWide, hu] at hv2
  obtain ⟨cs, rfl, hsz, ts, hts, _, hrow⟩ := hv2
  rw [cs25] at hsz
  rw [ct25] at hts
  obtain rfl := Option.some.inj hts
  obtain ⟨fuel, hf⟩ := h
  obtain ⟨xs, n, rfl, hx, hl, hxl, hfld⟩ := DataW.trod_struct hu hf
  rw [hfs] at hxl
  match cs, hsz, hl, hfld, hrow with
  | ⟨[c0, c1, c2, c3]⟩, _, _, hfld, hrow =>
    match xs, hxl, hx, hfld with
    | [x0, x1, x2, x3], _, hx, hfld =>
      have e0 := hfld 0 f0 h0
      have e1 := hfld 1 f1 h1
      have e2 := hfld 2 f2 h2
      have e3 := hfld 3 f3 h3
      rw [t0, o0, cs9] at e0
      rw [t1, o1, cs9] at e1
      rw [t2, o2, cs22] at e2
      rw [t3, o3, cs23] at e3
      obtain ⟨s0, q0, r0, _⟩ := DataW.trod_string Tryz.underlying9 (show DataW.trod enc Tryz.prog W 0 (fun _ => true) true n 9 [c0] = some x0 from e0)
      obtain ⟨s1, q1, r1, _⟩ := DataW.trod_string Tryz.underlying9 (show DataW.trod enc Tryz.prog W 0 (fun _ => true) true n 9 [c1] = some x1 from e1)
      have e2 : DataW.trod enc Tryz.prog W 0 (fun _ => true) true n 22 [c2] = some x2 := e2
      have e3 : DataW.trod enc Tryz.prog W 0 (fun _ => true) true n 23 [c3] = some x3 := e3
      obtain ⟨y2, k2, ok2⟩ := hrow 2 c2 rfl
      obtain ⟨y3, k3, ok3⟩ := hrow 3 c3 rfl
      have ky2 : y2 = 22 := by simpa using k2.symm
      have ky3 : y3 = 23 := by simpa using k3.symm
      subst ky2; subst ky3
      have v2 : Value.okWide Tryz.prog W r base 22 c2 := by simp only [Value.okWide, u22]; exact ok2
      have v3 : Value.okWide Tryz.prog W r base 23 c3 := by simp only [Value.okWide, u23]; exact ok3
      have w2 : ∃ a len cap, c2 = .slice a len cap := okWide_slice u22 v2
      have w3 : ∃ a len cap, c3 = .slice a len cap := okWide_slice u23 v3
      have d2 : DataW.Trod enc Tryz.prog W 0 (fun _ => true) true 22 c2 x2.1 x2.2 := ⟨n, by obtain ⟨a, b, c, rfl⟩ := w2; exact e2⟩
      have d3 : DataW.Trod enc Tryz.prog W 0 (fun _ => true) true 23 c3 x3.1 x3.2 := ⟨n, by obtain ⟨a, b, c, rfl⟩ := w3; exact e3⟩
      obtain ⟨hd, g2, k2'⟩ := arg_hds v2 d2
      obtain ⟨body, g3, bq⟩ := arg_bytes u23 Tryz.underlying5 (by kernel_rfl) v3 d3
      have hbq : body.length ≤ Rows.uptoBulk x3.1 := by
        rcases bq with ⟨_, h⟩ | ⟨es, sp, h, e⟩
        · rw [h]; exact Nat.zero_le _
        · have := length_le es
          rw [h, e]; simp only [Rows.uptoBulk]; omega
      simp only [List.cons.injEq, and_true] at q0 q1
      subst q0 q1
      subst r0 r1
      simp only [Prod.mk.injEq] at hx
      refine ⟨s0.data.toList, s1.data.toList, hd, body, x2.1, x3.1, ?_, hx.1, k2', hbq⟩
      refine .agg _ _ [_, _, _, _] rfl fun q c v h1 h2 => ?_
      match q, h1, h2 with
      | 0, h1, h2 => simp at h1 h2; subst h1; subst h2; simpa using VR.str (G := G0 W) (w := W) [] s0.data.toList
      | 1, h1, h2 => simp at h1 h2; subst h1; subst h2; simpa using VR.str (G := G0 W) (w := W) [] s1.data.toList
      | 2, h1, h2 => simp at h1 h2; subst h1; subst h2; simpa [List.getD_eq_getElem?_getD] using g2
      | 3, h1, h2 => simp at h1 h2; subst h1; subst h2; exact g3
      | q + 4, h1, _ => simp at h1
end Go.Proofs.YtdigohaeakclfaaGreatDoor
