/- A request that comes in, and its bounds. -/
import Derived.Test.YtnohmijdpmelpaaGreatCanon
import Derived.SliceStrings
import Derived.Test.YtnohmijdpmelpaaGreatRows
set_option maxRecDepth 100000
set_option linter.unusedVariables false
set_option linter.unusedSimpArgs false
set_option linter.unusedSectionVars false
namespace Go.Proofs.YtnohmijdpmelpaaGreat
open Go Go.Am Go.RowKit Go.ChangeShapes Go.WideShapes Go.ChangeAt
variable {H : Type} {enc : TypeId × Value → H} {W : World} {base : Nat}
def hdOf : DataW H → Hd
  | .agg [.lit (.string a), .lit (.string b)] => (a, b)
  | _ => ([], [])
def hdD (p : Hd) : DataW H := .agg [.lit (.string p.1), .lit (.string p.2)]
theorem u48 : ∃ fs : Array Field, Tryz.prog.underlying 48 = some (.struct fs) ∧ fs.size = 2 ∧ (∃ f0 f1, fs[0]? = some f0 ∧ fs[1]? = some f1 ∧ f0.type = 9 ∧ f1.type = 9 ∧ f0.offset = 0 ∧ f1.offset = 1) :=
  ⟨_, Tryz.underlying48, rfl, _, _, rfl, rfl, rfl, rfl, rfl, rfl⟩
theorem cs48 : Tryz.prog.cellsOf 48 = 2 := by kernel_rfl
theorem cs9 : Tryz.prog.cellsOf 9 = 1 := by kernel_rfl
theorem cs22 : Tryz.prog.cellsOf 22 = 1 := by kernel_rfl
theorem cs23 : Tryz.prog.cellsOf 23 = 1 := by kernel_rfl
theorem cs25 : Tryz.prog.cellsOf 25 = 4 := by kernel_rfl
/-- a pair, read -/
theorem trod_hd {n : Nat} {cs : List Value} {x : DataW H × List MemPlace} (h : DataW.trod enc Tryz.prog W 0 (fun _ => true) true n 48 cs = some x) : ∃ a b : ByteArray, cs = [.string a, .string b] ∧ x.1 = hdD (a.data.toList, b.data.toList) := by
  obtain ⟨fs, hu, hfs, f0, f1, h0, h1, t0, t1, o0, o1⟩ := u48
  obtain ⟨xs, m, rfl, hx, hl, hxl, hfld⟩ := DataW.trod_struct hu h
  rw [cs48] at hl
  rw [hfs] at hxl
  match cs, hl, hfld with
  | [c0, c1], _, hfld =>
    match xs, hxl, hx, hfld with
    | [x0, x1], _, hx, hfld =>
      have e0 := hfld 0 f0 h0
      have e1 := hfld 1 f1 h1
      rw [t0, o0, cs9] at e0
      rw [t1, o1, cs9] at e1
      obtain ⟨s0, q0, r0, _⟩ := DataW.trod_string Tryz.underlying9 (show DataW.trod enc Tryz.prog W 0 (fun _ => true) true m 9 [c0] = some x0 from e0)
      obtain ⟨s1, q1, r1, _⟩ := DataW.trod_string Tryz.underlying9 (show DataW.trod enc Tryz.prog W 0 (fun _ => true) true m 9 [c1] = some x1 from e1)
      simp only [List.cons.injEq, and_true] at q0 q1
      subst q0 q1
      subst r0 r1
      exact ⟨s0, s1, rfl, by rw [hx]; rfl⟩
theorem arg_hds {r : Reach} {v : Value} {d : DataW H} {p : List MemPlace} (hval : Value.okWide Tryz.prog W r base 22 v) (h : DataW.Trod enc Tryz.prog W 0 (fun _ => true) true 22 v d p) :
    ∃ l : List Hd, VR (G0 W) W [] (.sl 2 l.length (hdEl l) false) v ∧ ((d = .nil ∧ l = []) ∨ ∃ sp, d = .slice (l.map hdD) sp) := by
  obtain ⟨a1, len, cap, rfl⟩ := okWide_slice u22 hval
  obtain ⟨fuel, hf⟩ := h
  rcases DataW.trod_slice u22 hf with ⟨hcs, hx⟩ | ⟨a, len', cap', elems, rest, n, _, hcs, hx, hb, hl, hm, hlen, hel, hsp, hns⟩
  · simp [Value.cells] at hcs
    obtain ⟨rfl, rfl, rfl⟩ := hcs
    simp only [Prod.mk.injEq] at hx
    exact ⟨[], .sl _ _ _ _ _ none 0 (fun _ => undef) (Nat.le_refl _) (fun _ => rfl) (fun i h => absurd h (Nat.not_lt_zero _)) (fun b o h => by simp at h) (fun i j c h => absurd h (Nat.not_lt_zero _)), .inl ⟨hx.1, rfl⟩⟩
  · simp [Value.cells] at hcs
    obtain ⟨rfl, rfl, rfl⟩ := hcs
    simp only [Prod.mk.injEq] at hx
    have ha : a = mkA a.block a.off := by
      have hok := hval
      simp only [Value.okWide, u22, Cell.okWide, Cell.ok] at hok
      obtain ⟨b, o, sp⟩ := a
      have := hok.2.2.2.1
      simp only at this; subst this; rfl
    have each : ∀ i, i < len → ∃ s t : ByteArray, (elems[i]?).map (·.1) = some (hdD (s.data.toList, t.data.toList)) ∧ W.cell? (mkA a.block (a.off + i * 2)) = some (.string s) ∧ W.cell? (mkA a.block (a.off + i * 2 + 1)) = some (.string t) := fun i hi => by
      have hie : i < elems.length := by omega
      have h1 := hel i hi
      rw [List.getElem?_eq_getElem hie, cs48, Option.bind_eq_some_iff] at h1
      obtain ⟨cs, hcs, ht⟩ := h1
      obtain ⟨s, t, rfl, hx2⟩ := trod_hd ht
      have hc := (World.cells?_some hcs).2.2
      refine ⟨s, t, by rw [List.getElem?_eq_getElem hie]; simp [hx2], ?_, ?_⟩
      · have := hc 0 (by omega)
        rw [ha, mkA_add, mkA_add] at this
        exact this
      · have := hc 1 (by omega)
        rw [ha, mkA_add, mkA_add] at this
        exact this
    let l : List Hd := elems.map fun e => hdOf e.1
    have hll : l.length = len := by simp [l, hlen]
    have hget : ∀ i (s t : ByteArray), i < len → (elems[i]?).map (·.1) = some (hdD (s.data.toList, t.data.toList)) → l.getD i ([], []) = (s.data.toList, t.data.toList) := fun i s t hi h => by
      have hie : i < elems.length := by omega
      rw [List.getElem?_eq_getElem hie] at h
      simp only [Option.map_some, Option.some.injEq] at h
      simp only [l, List.getD_eq_getElem?_getD, List.getElem?_map, List.getElem?_eq_getElem hie, Option.map_some, Option.getD_some, h]
      rfl
    refine ⟨l, ?_, .inr ⟨rest.map (·.1), ?_⟩⟩
    · rw [hll, ha]
      refine .sl _ _ _ _ _ (some (a.block, a.off)) cap (fun q => if q % 2 = 0 then .string ⟨(l.getD (q / 2) ([], [])).1.toArray⟩ else .string ⟨(l.getD (q / 2) ([], [])).2.toArray⟩) hl (by simp) (fun i _ => rfl) (fun b o e q hq => ?_) (fun i j c hi hcj => ?_)
      · simp only [Option.some.injEq, Prod.mk.injEq] at e
        obtain ⟨rfl, rfl⟩ := e
        obtain ⟨s, t, h0, h1, h2⟩ := each (q / 2) (by omega)
        have hg := hget (q / 2) s t (by omega) h0
        by_cases hq2 : q % 2 = 0
        · rw [if_pos hq2, hg, show q = q / 2 * 2 by omega]
          have : W.cell? (mkA a.block (a.off + q / 2 * 2)) = some (.string ⟨s.data.toList.toArray⟩) := by simpa using h1
          exact ⟨G0_frz this rfl, this⟩
        · rw [if_neg hq2, hg, show q = q / 2 * 2 + 1 by omega, ← Nat.add_assoc]
          have : W.cell? (mkA a.block (a.off + q / 2 * 2 + 1)) = some (.string ⟨t.data.toList.toArray⟩) := by simpa using h2
          exact ⟨G0_frz this rfl, this⟩
      · have hj : j < 2 := (List.getElem?_eq_some_iff.1 hcj).1
        match j, hj, hcj with
        | 0, _, hcj =>
          simp [AV.cells] at hcj
          subst hcj
          rw [Nat.add_zero, if_pos (by omega), Nat.mul_div_cancel _ (by omega)]
          have := VR.str (G := G0 W) (w := W) [] (l.getD i ([], [])).1
          simpa [List.getD_eq_getElem?_getD] using this
        | 1, _, hcj =>
          simp [AV.cells] at hcj
          subst hcj
          rw [if_neg (by omega), show (i * 2 + 1) / 2 = i by omega]
          have := VR.str (G := G0 W) (w := W) [] (l.getD i ([], [])).2
          simpa [List.getD_eq_getElem?_getD] using this
    · rw [hx.1]
      congr 1
      apply List.ext_getElem?
      intro i
      rcases Nat.lt_or_ge i len with hi | hi
      · obtain ⟨s, t, h0, _, _⟩ := each i hi
        have hg := hget i s t hi h0
        rw [List.getElem?_map, h0, List.getElem?_map]
        rw [List.getD_eq_getElem?_getD, List.getElem?_eq_getElem (show i < l.length by rw [hll]; exact hi)] at hg
        rw [List.getElem?_eq_getElem (show i < l.length by rw [hll]; exact hi)]
        simp only [Option.getD_some] at hg
        rw [hg]; rfl
      · rw [List.getElem?_eq_none (by simp; omega), List.getElem?_eq_none (by simp [hll]; omega)]
theorem u25 : ∃ fs : Array Field, Tryz.prog.underlying 25 = some (.struct fs) ∧ fs.size = 4 ∧ (∃ f0 f1 f2 f3, fs[0]? = some f0 ∧ fs[1]? = some f1 ∧ fs[2]? = some f2 ∧ fs[3]? = some f3 ∧ f0.type = 9 ∧ f1.type = 9 ∧ f2.type = 22 ∧ f3.type = 23 ∧ f0.offset = 0 ∧ f1.offset = 1 ∧ f2.offset = 2 ∧ f3.offset = 3) :=
  ⟨_, Tryz.underlying25, rfl, _, _, _, _, rfl, rfl, rfl, rfl, rfl, rfl, rfl, rfl, rfl, rfl, rfl, rfl⟩
theorem ct25 : Tryz.prog.cellTypes Tryz.prog.depth 25 = some [9, 9, 22, 23] := by kernel_rfl
theorem u23 : Tryz.prog.underlying 23 = some (.slice 5) := Tryz.underlying23
end Go.Proofs.YtnohmijdpmelpaaGreat
set_option maxRecDepth 100000
set_option linter.unusedVariables false
set_option linter.unusedSimpArgs false
namespace Go.Proofs.YtnohmijdpmelpaaGreat
open Go Go.Am
def hdW (l : List Hd) : Nat := (l.map fun p => p.1.length + p.2.length + 1).sum
def sgW (l : List (List UInt8)) : Nat := (l.map fun p => p.length + 1).sum
theorem sum_mem {α : Type} (f : α → Nat) : ∀ (l : List α) (x : α), x ∈ l → f x ≤ (l.map f).sum
  | y :: l, x, h => by
    rw [List.map_cons, List.sum_cons]
    rcases List.mem_cons.1 h with rfl | h
    · omega
    · have := sum_mem f l x h; omega
theorem sum_len {α : Type} (f : α → Nat) (h : ∀ x, 1 ≤ f x) : ∀ l : List α, l.length ≤ (l.map f).sum
  | [] => by simp
  | y :: l => by
    have := sum_len f h l
    have := h y
    rw [List.map_cons, List.sum_cons, List.length_cons]; omega
theorem sum_take {α : Type} (f : α → Nat) (l : List α) (i : Nat) : ((l.take i).map f).sum ≤ (l.map f).sum := by
  conv => rhs; rw [← List.take_append_drop i l]
  rw [List.map_append, List.sum_append]; omega
theorem sum_le {α : Type} (f g : α → Nat) (h : ∀ x, f x ≤ g x) : ∀ l : List α, (l.map f).sum ≤ (l.map g).sum
  | [] => by simp
  | y :: l => by
    have := sum_le f g h l
    have := h y
    rw [List.map_cons, List.sum_cons, List.map_cons, List.sum_cons]; omega
theorem fold_len (s : List UInt8) : (foldL s).length ≤ s.length := by
  have h1 := foldN_len (trimL s) (trimL s).length
  have h2 := trimL_len s
  unfold foldL; omega
theorem aN_sum (l : List Hd) (n : List UInt8) : ∀ i, i ≤ l.length → ((aN l n i).map fun x => (foldL x).length + 1).sum ≤ ((l.take i).map fun p => p.1.length + p.2.length + 1).sum
  | 0, _ => by simp [aN]
  | i + 1, h => by
    have ih := aN_sum l n i (by omega)
    have hi : i < l.length := h
    rw [List.take_add_one, List.getElem?_eq_getElem hi, List.map_append, List.sum_append]
    simp only [Option.toList_some, List.map_cons, List.map_nil, List.sum_cons, List.sum_nil]
    unfold aN
    rw [List.getD_eq_getElem?_getD, List.getElem?_eq_getElem hi]
    simp only [Option.getD_some]
    split
    · rw [List.map_append, List.sum_append]
      simp only [List.map_cons, List.map_nil, List.sum_cons, List.sum_nil]
      have := fold_len (l[i]).2
      omega
    · omega
theorem vals_bd (hd : List Hd) (n : List UInt8) : (joinL (valsL hd n) [44]).length ≤ hdW hd := by
  have h1 := joinL_sum (valsL hd n) [44]
  have h2 := aN_sum hd n hd.length (Nat.le_refl _)
  rw [List.take_length] at h2
  have e : ((valsL hd n).map fun x => x.length + ([44] : List UInt8).length).sum = ((aN hd n hd.length).map fun x => (foldL x).length + 1).sum := by
    unfold valsL allL; rw [List.map_map]; rfl
  rw [e] at h1
  exact Nat.le_trans h1 h2
theorem fm_len (hd : List Hd) (B : Nat) (hB : hdW hd ≤ B) : ∀ sg : List (List UInt8), (sg.flatMap (lineL hd)).length ≤ sgW sg + sg.length * (B + 1)
  | [] => by simp [sgW]
  | n :: sg => by
    have ih := fm_len hd B hB sg
    have hv := vals_bd hd n
    unfold sgW at *
    rw [List.flatMap_cons, List.length_append, List.map_cons, List.sum_cons, List.length_cons, Nat.add_mul]
    have : (lineL hd n).length = n.length + 1 + (joinL (valsL hd n) [44]).length + 1 := by unfold lineL; simp only [List.length_append, List.length_cons, List.length_nil]
    omega
theorem Bd.of {m t : List UInt8} {hd : List Hd} {sg : List (List UInt8)} {pay : List UInt8} (ht : t.length ≤ 2097152) (h : m.length + t.length + hdW hd + sgW sg + pay.length ≤ 4194304) : Bd m t hd sg pay where
  lm := by omega
  lt := by omega
  lh := by have := sum_len (fun p : Hd => p.1.length + p.2.length + 1) (fun x => by omega) hd; unfold hdW at h; omega
  lv := fun p hp => by have := sum_mem (fun p : Hd => p.1.length + p.2.length + 1) hd p hp; unfold hdW at h; omega
  ls := by have := sum_len (fun p : List UInt8 => p.length + 1) (fun x => by omega) sg; unfold sgW at h; omega
  ln := fun p hp => by have := sum_mem (fun p : List UInt8 => p.length + 1) sg p hp; unfold sgW at h; omega
  lp := by omega
  vals := fun n => by have := vals_bd hd n; omega
  lines := fun i => by
    have h1 := fm_len hd 4194304 (by omega) (sg.take i)
    have h2 : sgW (sg.take i) ≤ sgW sg := sum_take _ sg i
    have h3 : (sg.take i).length ≤ 4194304 := by
      have := sum_len (fun p : List UInt8 => p.length + 1) (fun x => by omega) sg
      rw [List.length_take]; unfold sgW at h; omega
    have h4 : (sg.take i).length * (4194304 + 1) ≤ 4194304 * (4194304 + 1) := Nat.mul_le_mul_right _ h3
    omega
  join := by
    have h1 := joinL_sum sg [59]
    have e : (sg.map fun x => x.length + ([59] : List UInt8).length).sum = sgW sg := rfl
    rw [e] at h1; omega
theorem bulk_hds {H : Type} : ∀ l : List Hd, hdW l ≤ Rows.uptoBulkAll (l.map (hdD (H := H)))
  | [] => by simp [hdW, Rows.uptoBulkAll]
  | p :: l => by
    have ih := bulk_hds (H := H) l
    unfold hdW at *
    simp only [List.map_cons, List.sum_cons, Rows.uptoBulkAll, hdD, Rows.uptoBulk] at ih ⊢
    omega
end Go.Proofs.YtnohmijdpmelpaaGreat
