/- A request that comes in: a struct with a list of pairs. The bounds on a request, out of the bulk of what is read. Bounds on the text that is signed, and a day's text: plain lists. sig.Header: what it answers. The abstract machine: slices in cells that grow; cells said otherwise; blocks that end with the call. The abstract machine: contracts that ask for no table hold with any. sig.Header as a contract of the machine. The shelf's contract of strconv.Itoa. The abstract machine: literals of which the slices left out are known to be nil. -/
import Derived.Test.YtdigohaeakclfaaGreatDoorMa15
import Derived.SliceStrings
import Derived.Test.YtdigohaeakclfaaGreatDoorRows
import Derived.Test.YtdigohaeakclfaaGreatDoorMa16
import Derived.Test.YtdigohaeakclfaaGreatDoorMa18
import Derived.Test.YtdigohaeakclfaaGreatDoorMa07
import Derived.Shelf.Strconv.Itoa3
import Derived.Shelf.LaysM
set_option maxRecDepth 100000
set_option linter.unusedVariables false
set_option linter.unusedSimpArgs false
set_option linter.unusedSectionVars false
namespace Go.Proofs.YtdigohaeakclfaaGreatDoor
open Go Go.Am Go.RowKit Go.ChangeShapes Go.WideShapes Go.ChangeAt
variable {H : Type} {enc : TypeId × Value → H} {W : World} {base : Nat}
def hdOf : DataW H → Hd
  | .agg [.lit (.string a), .lit (.string b)] => (a, b)
  | _ => ([], [])
def hdD (p : Hd) : DataW H := .agg [.lit (.string p.1), .lit (.string p.2)]
theorem u48 : ∃ fs : Array Field, Tryz.prog.underlying 47 = some (.struct fs) ∧ fs.size = 2 ∧ (∃ f0 f1, fs[0]? = some f0 ∧ fs[1]? = some f1 ∧ f0.type = 9 ∧ f1.type = 9 ∧ f0.offset = 0 ∧ f1.offset = 1) :=
  ⟨_, Tryz.underlying47, rfl, _, _, rfl, rfl, rfl, rfl, rfl, rfl⟩
theorem cs48 : Tryz.prog.cellsOf 47 = 2 := by kernel_rfl
theorem cs9 : Tryz.prog.cellsOf 9 = 1 := by kernel_rfl
theorem cs22 : Tryz.prog.cellsOf 22 = 1 := by kernel_rfl
theorem cs23 : Tryz.prog.cellsOf 23 = 1 := by kernel_rfl
theorem cs25 : Tryz.prog.cellsOf 25 = 4 := by kernel_rfl
/-- a pair, read -/
theorem trod_hd {n : Nat} {cs : List Value} {x : DataW H × List MemPlace} (h : DataW.trod enc Tryz.prog W 0 (fun _ => true) true n 47 cs = some x) : ∃ a b : ByteArray, cs = [.string a, .string b] ∧ x.1 = hdD (a.data.toList, b.data.toList) := by
  obtain ⟨fs, hu, hfs, f0, f1, h0, h1, t0, t1, o0, o1⟩ := u48
  obtain ⟨xs, m, rfl, hx, hl, hxl, hfld⟩ := DataW.trod_struct hu h
  rw [cs48] at hl
  rw [hfs] at hxl
  match cs, hl, hfld with
  | [c0, c1], _, hfld =>
    match xs, hxl, hx, hfld with
    | [x0, x1], _, hx, hfld =>
      have e0 := hfld 0 f0 h0
      have e1 := hfld 1 f1 h1
      rw [t0, o0, cs9] at e0
      rw [t1, o1, cs9] at e1
      obtain ⟨s0, q0, r0, _⟩ := DataW.trod_string Tryz.underlying9 (show DataW.trod enc Tryz.prog W 0 (fun _ => true) true m 9 [c0] = some x0 from e0)
      obtain ⟨s1, q1, r1, _⟩ := DataW.trod_string Tryz.underlying9 (show DataW.trod enc Tryz.prog W 0 (fun _ => true) true m 9 [c1] = some x1 from e1)
      simp only [List.cons.injEq, and_true] at q0 q1
      subst q0 q1
      subst r0 r1
      exact ⟨s0, s1, rfl, by rw [hx]; rfl⟩
theorem arg_hds {r : Reach} {v : Value} {d : DataW H} {p : List MemPlace} (hval : Value.okWide Tryz.prog W r base 22 v) (h : DataW.Trod enc Tryz.prog W 0 (fun _ => true) true 22 v d p) :
    ∃ l : List Hd, VR (G0 W) W [] (.sl 2 l.length (hdEl l) false) v ∧ ((d = .nil ∧ l = []) ∨ ∃ sp, d = .slice (l.map hdD) sp) := by
  obtain ⟨a1, len, cap, rfl⟩ := okWide_slice u22 hval
  obtain ⟨fuel, hf⟩ := h
  rcases DataW.trod_slice u22 hf with ⟨hcs, hx⟩ | ⟨a, len', cap', elems, rest, n, _, hcs, hx, hb, hl, hm, hlen, hel, hsp, hns⟩
  · simp [Value.cells] at hcs
    obtain ⟨rfl, rfl, rfl⟩ := hcs
    simp only [Prod.mk.injEq] at hx
    exact ⟨[], .sl _ _ _ _ _ none 0 (fun _ => undef) (Nat.le_refl _) (fun _ => rfl) (fun i h => absurd h (Nat.not_lt_zero _)) (fun b o h => by simp at h) (fun i j c h => absurd h (Nat.not_lt_zero _)), .inl ⟨hx.1, rfl⟩⟩
  · simp [Value.cells] at hcs
    obtain ⟨rfl, rfl, rfl⟩ := hcs
    simp only [Prod.mk.injEq] at hx
    have ha : a = mkA a.block a.off := by
      have hok := hval
      simp only [Value.okWide, u22, Cell.okWide, Cell.ok] at hok
      obtain ⟨b, o, sp⟩ := a
      have := hok.2.2.2.1
      simp only at this; subst this; rfl
    have each : ∀ i, i < len → ∃ s t : ByteArray, (elems[i]?).map (·.1) = some (hdD (s.data.toList, t.data.toList)) ∧ W.cell? (mkA a.block (a.off + i * 2)) = some (.string s) ∧ W.cell? (mkA a.block (a.off + i * 2 + 1)) = some (.string t) := fun i hi => by
      have hie : i < elems.length := by omega
      have h1 := hel i hi
      rw [List.getElem?_eq_getElem hie, cs48, Option.bind_eq_some_iff] at h1
      obtain ⟨cs, hcs, ht⟩ := h1
      obtain ⟨s, t, rfl, hx2⟩ := trod_hd ht
      have hc := (World.cells?_some hcs).2.2
      refine ⟨s, t, by rw [List.getElem?_eq_getElem hie]; simp [hx2], ?_, ?_⟩
      · have := hc 0 (by omega)
        rw [ha, mkA_add, mkA_add] at this
        exact this
      · have := hc 1 (by omega)
        rw [ha, mkA_add, mkA_add] at this
        exact this
    let l : List Hd := elems.map fun e => hdOf e.1
    have hll : l.length = len := by simp [l, hlen]
    have hget : ∀ i (s t : ByteArray), i < len → (elems[i]?).map (·.1) = some (hdD (s.data.toList, t.data.toList)) → l.getD i ([], []) = (s.data.toList, t.data.toList) := fun i s t hi h => by
      have hie : i < elems.length := by omega
      rw [List.getElem?_eq_getElem hie] at h
      simp only [Option.map_some, Option.some.injEq] at h
      simp only [l, List.getD_eq_getElem?_getD, List.getElem?_map, List.getElem?_eq_getElem hie, Option.map_some, Option.getD_some, h]
      rfl
    refine ⟨l, ?_, .inr ⟨rest.map (·.1), ?_⟩⟩
    · rw [hll, ha]
      refine .sl _ _ _ _ _ (some (a.block, a.off)) cap (fun q => if q % 2 = 0 then .string ⟨(l.getD (q / 2) ([], [])).1.toArray⟩ else .string ⟨(l.getD (q / 2) ([], [])).2.toArray⟩) hl (by simp) (fun i _ => rfl) (fun b o e q hq => ?_) (fun i j c hi hcj => ?_)
      · simp only [Option.some.injEq, Prod.mk.injEq] at e
        obtain ⟨rfl, rfl⟩ := e
        obtain ⟨s, t, h0, h1, h2⟩ := each (q / 2) (by omega)
        have hg := hget (q / 2) s t (by omega) h0
        by_cases hq2 : q % 2 = 0
        · rw [if_pos hq2, hg, show q = q / 2 * 2 by omega]
          have : W.cell? (mkA a.block (a.off + q / 2 * 2)) = some (.string ⟨s.data.toList.toArray⟩) := by simpa using h1
          exact ⟨G0_frz this rfl, this⟩
        · rw [if_neg hq2, hg, show q = q / 2 * 2 + 1 by omega, ← Nat.add_assoc]
          have : W.cell? (mkA a.block (a.off + q / 2 * 2 + 1)) = some (.string ⟨t.data.toList.toArray⟩) := by simpa using h2
          exact ⟨G0_frz this rfl, this⟩
      · have hj : j < 2 := (List.getElem?_eq_some_iff.1 hcj).1
        match j, hj, hcj with
        | 0, _, hcj =>
          simp [AV.cells] at hcj
          subst hcj
          rw [Nat.add_zero, if_pos (by omega), Nat.mul_div_cancel _ (by omega)]
          have := VR.str (G := G0 W) (w := W) [] (l.getD i ([], [])).1
          simpa [List.getD_eq_getElem?_getD] using this
        | 1, _, hcj =>
          simp [AV.cells] at hcj
          subst hcj
          rw [if_neg (by omega), show (i * 2 + 1) / 2 = i by omega]
          have := VR.str (G := G0 W) (w := W) [] (l.getD i ([], [])).2
          simpa [List.getD_eq_getElem?_getD] using this
    · rw [hx.1]
      congr 1
      apply List.ext_getElem?
      intro i
      rcases Nat.lt_or_ge i len with hi | hi
      · obtain ⟨s, t, h0, _, _⟩ := each i hi
        have hg := hget i s t hi h0
        rw [List.getElem?_map, h0, List.getElem?_map]
        rw [List.getD_eq_getElem?_getD, List.getElem?_eq_getElem (show i < l.length by rw [hll]; exact hi)] at hg
        rw [List.getElem?_eq_getElem (show i < l.length by rw [hll]; exact hi)]
        simp only [Option.getD_some] at hg
        rw [hg]; rfl
      · rw [List.getElem?_eq_none (by simp; omega), List.getElem?_eq_none (by simp [hll]; omega)]
theorem u25 : ∃ fs : Array Field, Tryz.prog.underlying 25 = some (.struct fs) ∧ fs.size = 4 ∧ (∃ f0 f1 f2 f3, fs[0]? = some f0 ∧ fs[1]? = some f1 ∧ fs[2]? = some f2 ∧ fs[3]? = some f3 ∧ f0.type = 9 ∧ f1.type = 9 ∧ f2.type = 22 ∧ f3.type = 23 ∧ f0.offset = 0 ∧ f1.offset = 1 ∧ f2.offset = 2 ∧ f3.offset = 3) :=
  ⟨_, Tryz.underlying25, rfl, _, _, _, _, rfl, rfl, rfl, rfl, rfl, rfl, rfl, rfl, rfl, rfl, rfl, rfl⟩
theorem ct25 : Tryz.prog.cellTypes Tryz.prog.depth 25 = some [9, 9, 22, 23] := by kernel_rfl
theorem u23 : Tryz.prog.underlying 23 = some (.slice 5) := Tryz.underlying23
end Go.Proofs.YtdigohaeakclfaaGreatDoor
set_option maxRecDepth 100000
set_option linter.unusedVariables false
set_option linter.unusedSimpArgs false
namespace Go.Proofs.YtdigohaeakclfaaGreatDoor
open Go Go.Am
def hdW (l : List Hd) : Nat := (l.map fun p => p.1.length + p.2.length + 1).sum
def sgW (l : List (List UInt8)) : Nat := (l.map fun p => p.length + 1).sum
theorem sum_mem {α : Type} (f : α → Nat) : ∀ (l : List α) (x : α), x ∈ l → f x ≤ (l.map f).sum
  | y :: l, x, h => by
    rw [List.map_cons, List.sum_cons]
    rcases List.mem_cons.1 h with rfl | h
    · omega
    · have := sum_mem f l x h; omega
theorem sum_len {α : Type} (f : α → Nat) (h : ∀ x, 1 ≤ f x) : ∀ l : List α, l.length ≤ (l.map f).sum
  | [] => by simp
  | y :: l => by
    have := sum_len f h l
    have := h y
    rw [List.map_cons, List.sum_cons, List.length_cons]; omega
theorem sum_take {α : Type} (f : α → Nat) (l : List α) (i : Nat) : ((l.take i).map f).sum ≤ (l.map f).sum := by
  conv => rhs; rw [← List.take_append_drop i l]
  rw [List.map_append, List.sum_append]; omega
theorem sum_le {α : Type} (f g : α → Nat) (h : ∀ x, f x ≤ g x) : ∀ l : List α, (l.map f).sum ≤ (l.map g).sum
  | [] => by simp
  | y :: l => by
    have := sum_le f g h l
    have := h y
    rw [List.map_cons, List.sum_cons, List.map_cons, List.sum_cons]; omega
theorem fold_len (s : List UInt8) : (foldL s).length ≤ s.length := by
  have h1 := foldN_len (trimL s) (trimL s).length
  have h2 := trimL_len s
  unfold foldL; omega
theorem aN_sum (l : List Hd) (n : List UInt8) : ∀ i, i ≤ l.length → ((aN l n i).map fun x => (foldL x).length + 1).sum ≤ ((l.take i).map fun p => p.1.length + p.2.length + 1).sum
  | 0, _ => by simp [aN]
  | i + 1, h => by
    have ih := aN_sum l n i (by omega)
    have hi : i < l.length := h
    rw [List.take_add_one, List.getElem?_eq_getElem hi, List.map_append, List.sum_append]
    simp only [Option.toList_some, List.map_cons, List.map_nil, List.sum_cons, List.sum_nil]
    unfold aN
    rw [List.getD_eq_getElem?_getD, List.getElem?_eq_getElem hi]
    simp only [Option.getD_some]
    split
    · rw [List.map_append, List.sum_append]
      simp only [List.map_cons, List.map_nil, List.sum_cons, List.sum_nil]
      have := fold_len (l[i]).2
      omega
    · omega
theorem vals_bd (hd : List Hd) (n : List UInt8) : (joinL (valsL hd n) [44]).length ≤ hdW hd := by
  have h1 := joinL_sum (valsL hd n) [44]
  have h2 := aN_sum hd n hd.length (Nat.le_refl _)
  rw [List.take_length] at h2
  have e : ((valsL hd n).map fun x => x.length + ([44] : List UInt8).length).sum = ((aN hd n hd.length).map fun x => (foldL x).length + 1).sum := by
    unfold valsL allL; rw [List.map_map]; rfl
  rw [e] at h1
  exact Nat.le_trans h1 h2
theorem fm_len (hd : List Hd) (B : Nat) (hB : hdW hd ≤ B) : ∀ sg : List (List UInt8), (sg.flatMap (lineL hd)).length ≤ sgW sg + sg.length * (B + 1)
  | [] => by simp [sgW]
  | n :: sg => by
    have ih := fm_len hd B hB sg
    have hv := vals_bd hd n
    unfold sgW at *
    rw [List.flatMap_cons, List.length_append, List.map_cons, List.sum_cons, List.length_cons, Nat.add_mul]
    have : (lineL hd n).length = n.length + 1 + (joinL (valsL hd n) [44]).length + 1 := by unfold lineL; simp only [List.length_append, List.length_cons, List.length_nil]
    omega
theorem Bd.of {m t : List UInt8} {hd : List Hd} {sg : List (List UInt8)} {pay : List UInt8} (ht : t.length ≤ 3500000) (h : m.length + hdW hd + sgW sg + pay.length ≤ 4194304) : Bd m t hd sg pay where
  lm := by omega
  lt := by omega
  lh := by have := sum_len (fun p : Hd => p.1.length + p.2.length + 1) (fun x => by omega) hd; unfold hdW at h; omega
  lv := fun p hp => by have := sum_mem (fun p : Hd => p.1.length + p.2.length + 1) hd p hp; unfold hdW at h; omega
  ls := by have := sum_len (fun p : List UInt8 => p.length + 1) (fun x => by omega) sg; unfold sgW at h; omega
  ln := fun p hp => by have := sum_mem (fun p : List UInt8 => p.length + 1) sg p hp; unfold sgW at h; omega
  lp := by omega
  vals := fun n => by have := vals_bd hd n; omega
  lines := fun i => by
    have h1 := fm_len hd 4194304 (by omega) (sg.take i)
    have h2 : sgW (sg.take i) ≤ sgW sg := sum_take _ sg i
    have h3 : (sg.take i).length ≤ 4194304 := by
      have := sum_len (fun p : List UInt8 => p.length + 1) (fun x => by omega) sg
      rw [List.length_take]; unfold sgW at h; omega
    have h4 : (sg.take i).length * (4194304 + 1) ≤ 4194304 * (4194304 + 1) := Nat.mul_le_mul_right _ h3
    omega
  join := by
    have h1 := joinL_sum sg [59]
    have e : (sg.map fun x => x.length + ([59] : List UInt8).length).sum = sgW sg := rfl
    rw [e] at h1; omega
theorem bulk_hds {H : Type} : ∀ l : List Hd, hdW l ≤ Rows.uptoBulkAll (l.map (hdD (H := H)))
  | [] => by simp [hdW, Rows.uptoBulkAll]
  | p :: l => by
    have ih := bulk_hds (H := H) l
    unfold hdW at *
    simp only [List.map_cons, List.sum_cons, Rows.uptoBulkAll, hdD, Rows.uptoBulk] at ih ⊢
    omega
end Go.Proofs.YtdigohaeakclfaaGreatDoor
set_option maxRecDepth 100000
set_option linter.unusedVariables false
set_option linter.unusedSimpArgs false
namespace Go.Proofs.YtdigohaeakclfaaGreatDoor
open Go Go.Am
theorem sgW_app (l m : List (List UInt8)) : sgW (l ++ m) = sgW l + sgW m := by unfold sgW; rw [List.map_append, List.sum_append]
theorem sgW_one (x : List UInt8) : sgW [x] = x.length + 1 := by simp [sgW]
theorem hdW_app (l m : List Hd) : hdW (l ++ m) = hdW l + hdW m := by unfold hdW; rw [List.map_append, List.sum_append]
/-- the parts of a text -/
theorem spI_sum (s : List UInt8) (c : UInt8) : ∀ i, i ≤ s.length → sgW (spI s c i).1 = (spI s c i).2
  | 0, _ => rfl
  | i + 1, h => by
    have ih := spI_sum s c i (by omega)
    have hle := (spI_le s c i).2
    unfold spI
    split
    · rw [sgW_app, sgW_one, ih, List.length_drop, List.length_take]
      omega
    · exact ih
theorem splitL_sum (s : List UInt8) (c : UInt8) : sgW (splitL s c) = s.length + 1 := by
  have h := spI_sum s c s.length (Nat.le_refl _)
  have h2 := (spI_le s c s.length).2
  unfold splitL
  rw [sgW_app, sgW_one, h, List.length_drop]; omega
theorem cutF_sum (s : List UInt8) (c : UInt8) : (cutF s c).1.length + (cutF s c).2.1.length ≤ s.length := by
  unfold cutF
  split
  · simp only [List.length_take, List.length_drop]; omega
  · simp
theorem qN_sum (ps : List (List UInt8)) : ∀ i, i ≤ ps.length → hdW (qN ps i) ≤ sgW (ps.take i)
  | 0, _ => by simp [qN, hdW]
  | i + 1, h => by
    have ih := qN_sum ps i (by omega)
    have hi : i < ps.length := h
    rw [take_snoc [] hi, sgW_app, sgW_one]
    unfold qN
    split
    · omega
    · rw [hdW_app]
      have := cutF_sum (ps.getD i []) 61
      simp only [hdW, List.map_cons, List.map_nil, List.sum_cons, List.sum_nil] at ih ⊢
      omega
theorem query_sum (t : List UInt8) : hdW (queryQ t) ≤ t.length + 1 := by
  have h := qN_sum (splitL (cutF t 63).2.1 38) (splitL (cutF t 63).2.1 38).length (Nat.le_refl _)
  rw [List.take_length, splitL_sum] at h
  have := (cut_len t 63).2
  unfold queryQ; omega
theorem cP_sum (pre : Bool) : ∀ (l ps : List Hd), cPairs pre l = some ps → hdW ps ≤ 3 * hdW l
  | [], ps, h => by unfold cPairs at h; cases h; simp [hdW]
  | p :: r, ps, h => by
    have ih := cP_sum pre r
    have e : hdW (p :: r) = p.1.length + p.2.length + 1 + hdW r := by simp [hdW]
    rw [e]
    unfold cPairs at h
    split at h
    · have := ih ps h; omega
    · split at h
      · rename_i a b ha hb
        cases e2 : cPairs pre r with
        | none => rw [e2] at h; cases h
        | some qs =>
          rw [e2] at h; cases h
          have := ih qs e2
          have u1 := unesc_le ha
          have u2 := unesc_le hb
          have e3 := escL_len false a
          have e4 := escL_len false b
          have e5 : hdW ((escL a false, escL b false) :: qs) = (escL a false).length + (escL b false).length + 1 + hdW qs := by simp [hdW]
          rw [e5]; omega
      · cases h
theorem perm_sum {α : Type} (f : α → Nat) {l m : List α} (h : l.Perm m) : (l.map f).sum = (m.map f).sum := (h.map f).sum_nat
theorem queryC_sum {t q : List UInt8} {pre : Bool} (h : queryC t pre = some q) : q.length ≤ 6 * (t.length + 1) := by
  unfold queryC at h
  cases e : cPairs pre (queryQ t) with
  | none => rw [e] at h; cases h
  | some ps =>
    rw [e] at h; cases h
    have h1 := cP_sum pre _ ps e
    have h2 := query_sum t
    have h3 := joinL_sum ((sortP ps).map fmtP) [38]
    rw [List.map_map] at h3
    have h4 : ((sortP ps).map ((fun x : List UInt8 => x.length + ([38] : List UInt8).length) ∘ fmtP)).sum ≤ ((sortP ps).map fun p => 2 * (p.1.length + p.2.length + 1)).sum := sum_le _ _ (fun p => by simp [fmtP]; omega) _
    have h5 : ((sortP ps).map fun p : Hd => 2 * (p.1.length + p.2.length + 1)).sum = (ps.map fun p : Hd => 2 * (p.1.length + p.2.length + 1)).sum := perm_sum _ (sortP_perm ps)
    have h6 : (ps.map fun p : Hd => 2 * (p.1.length + p.2.length + 1)).sum = 2 * hdW ps := by
      unfold hdW
      clear e h1 h3 h4 h5
      induction ps with
      | nil => rfl
      | cons p r ih => simp only [List.map_cons, List.sum_cons] at ih ⊢; rw [ih]; omega
    show (joinL ((sortP ps).map fmtP) [38]).length ≤ _
    omega
/-- what a header adds to a name's line -/
def cW (p : Hd) (n : List UInt8) : Nat := if p.1 = n then (foldL p.2).length + 1 else 0
theorem aN_cW (l : List Hd) (n : List UInt8) : ∀ i, i ≤ l.length → ((aN l n i).map fun x => (foldL x).length + 1).sum = ((l.take i).map fun p => cW p n).sum
  | 0, _ => by simp [aN]
  | i + 1, h => by
    have ih := aN_cW l n i (by omega)
    have hi : i < l.length := h
    rw [take_snoc ([], []) hi, List.map_append, List.sum_append]
    unfold aN
    simp only [List.map_cons, List.map_nil, List.sum_cons, List.sum_nil]
    unfold cW at ih ⊢
    split
    · rw [List.map_append, List.sum_append, ih]
      simp only [List.map_cons, List.map_nil, List.sum_cons, List.sum_nil]
    · rw [ih]; rfl
theorem vals_cW (hd : List Hd) (n : List UInt8) : (joinL (valsL hd n) [44]).length ≤ (hd.map fun p => cW p n).sum := by
  have h1 := joinL_sum (valsL hd n) [44]
  have h2 := aN_cW hd n hd.length (Nat.le_refl _)
  rw [List.take_length] at h2
  have e : ((valsL hd n).map fun x => x.length + ([44] : List UInt8).length).sum = ((aN hd n hd.length).map fun x => (foldL x).length + 1).sum := by
    unfold valsL allL; rw [List.map_map]; rfl
  rw [e, h2] at h1
  exact h1
theorem sum_add {α : Type} (f g : α → Nat) : ∀ l : List α, (l.map fun x => f x + g x).sum = (l.map f).sum + (l.map g).sum
  | [] => rfl
  | x :: l => by simp only [List.map_cons, List.sum_cons, sum_add f g l]; omega
theorem sum_zero {α : Type} : ∀ l : List α, (l.map fun _ => 0).sum = 0
  | [] => rfl
  | x :: l => by rw [List.map_cons, List.sum_cons, sum_zero l]
theorem cW_nodup (p : Hd) : ∀ ns : List (List UInt8), ns.Nodup → (ns.map fun n => cW p n).sum ≤ p.2.length + 1
  | [], _ => Nat.zero_le _
  | n :: ns, h => by
    rw [List.nodup_cons] at h
    rw [List.map_cons, List.sum_cons]
    by_cases e : p.1 = n
    · have h0 : (ns.map fun n => cW p n).sum = 0 := by
        have : ns.map (fun n => cW p n) = ns.map fun _ => 0 := List.map_congr_left fun m hm => by
          unfold cW; rw [if_neg (fun e2 => h.1 (by rw [← e, e2]; exact hm))]
        rw [this]; exact sum_zero ns
      have h1 : cW p n = (foldL p.2).length + 1 := if_pos e
      have := fold_len p.2
      omega
    · have h1 : cW p n = 0 := if_neg e
      have := cW_nodup p ns h.2
      omega
theorem sum_swap (ns : List (List UInt8)) : ∀ hd : List Hd, (ns.map fun n => (hd.map fun p => cW p n).sum).sum = (hd.map fun p => (ns.map fun n => cW p n).sum).sum
  | [] => by
    simp only [List.map_nil, List.sum_nil]
    induction ns with
    | nil => rfl
    | cons n ns ih => simp only [List.map_cons, List.sum_cons, ih]; rfl
  | p :: hd => by
    simp only [List.map_cons, List.sum_cons]
    rw [sum_add, sum_swap ns hd]
theorem lines_nodup (hd : List Hd) (ns : List (List UInt8)) (h : ns.Nodup) : (ns.flatMap (lineL hd)).length ≤ 2 * sgW ns + hdW hd := by
  have h1 : ∀ l : List (List UInt8), (l.flatMap (lineL hd)).length ≤ 2 * sgW l + (l.map fun n => (hd.map fun p => cW p n).sum).sum := by
    intro l
    induction l with
    | nil => simp [sgW]
    | cons n l ih =>
      have hv := vals_cW hd n
      have e : sgW (n :: l) = n.length + 1 + sgW l := by simp [sgW]
      rw [List.flatMap_cons, List.length_append, List.map_cons, List.sum_cons, e]
      have : (lineL hd n).length = n.length + 1 + (joinL (valsL hd n) [44]).length + 1 := by unfold lineL; simp only [List.length_append, List.length_cons, List.length_nil]
      omega
  have h2 := h1 ns
  rw [sum_swap] at h2
  have h3 : (hd.map fun p => (ns.map fun n => cW p n).sum).sum ≤ hdW hd := sum_le _ _ (fun p => Nat.le_trans (cW_nodup p ns h) (by omega)) hd
  omega
theorem canon_len {m t : List UInt8} {hd : List Hd} {ns : List (List UInt8)} {pay x : List UInt8} {pre : Bool} (hn : ns.Nodup) (h : canonL m t hd ns pay pre = some x) : x.length ≤ m.length + 9 * (t.length + 1) + 3 * sgW ns + hdW hd + pay.length + 5 := by
  unfold canonL at h
  split at h
  · rename_i p q hp hq
    cases h
    have h1 := escL_len true p
    have h2 := unesc_le hp
    have h3 := queryP_len t
    have h4 := queryC_sum hq
    have h5 := lines_nodup hd ns hn
    have h6 := joinL_sum ns [59]
    have e : (ns.map fun x => x.length + ([59] : List UInt8).length).sum = sgW ns := rfl
    rw [e] at h6
    unfold textC headC
    simp only [List.length_append, List.length_cons, List.length_nil]
    omega
  · cases h
end Go.Proofs.YtdigohaeakclfaaGreatDoor
set_option maxRecDepth 100000
set_option linter.unusedVariables false
set_option linter.unusedSimpArgs false
set_option linter.unusedSectionVars false
namespace Go.Proofs.YtdigohaeakclfaaGreatDoor
open Go Go.Am Go.RowKit
/-- the names of headers, rising, each once -/
def nmS (hd : List Hd) : List (List UInt8) := srtN (hd.map (·.1))
theorem sgW_ins (x : List UInt8) : ∀ l : List (List UInt8), sgW (insU x l) ≤ sgW l + x.length + 1
  | [] => by simp [insU, sgW]
  | y :: r => by
    have ih := sgW_ins x r
    unfold insU
    unfold sgW at *
    split
    · simp only [List.map_cons, List.sum_cons] at *; omega
    · split <;> simp only [List.map_cons, List.sum_cons] at * <;> omega
theorem sgW_fold : ∀ (L : List Hd) (l : List (List UInt8)), sgW (L.foldl (fun l p => insU p.1 l) l) ≤ sgW l + hdW L
  | [], l => by simp
  | p :: L, l => by
    have h1 := sgW_fold L (insU p.1 l)
    have h2 := sgW_ins p.1 l
    have h3 : hdW (p :: L) = p.1.length + p.2.length + 1 + hdW L := by simp [hdW]
    show sgW (L.foldl _ (insU p.1 l)) ≤ _
    omega
theorem nmS_W (hd : List Hd) : sgW (nmS hd) ≤ hdW hd := by
  unfold nmS
  rw [names_same]
  unfold nmL
  rw [List.take_length]
  have := sgW_fold hd []
  simpa [sgW] using this
theorem nmS_ss (hd : List Hd) : SS (nmS hd) := (srt_ss _).1
theorem nmS_nodup (hd : List Hd) : (nmS hd).Nodup := (nmS_ss hd).imp fun {a b} h e => by subst e; rw [ltL_irr] at h; cases h
theorem nmS_len (hd : List Hd) : (nmS hd).length ≤ sgW (nmS hd) := sum_len (fun p : List UInt8 => p.length + 1) (fun x => by omega) _
theorem nmS_join (hd : List Hd) (sep : UInt8) : (joinL (nmS hd) [sep]).length ≤ hdW hd := by
  have h1 := joinL_sum (nmS hd) [sep]
  have h2 := nmS_W hd
  have e : ((nmS hd).map fun x => x.length + ([sep] : List UInt8).length).sum = sgW (nmS hd) := rfl
  rw [e] at h1; omega
abbrev nm3 : List (List UInt8) := [xdateN, xshaN, authN]
noncomputable def stampH (hd : List Hd) (tm : Int) (pl : List UInt8) : List Hd := hd ++ [(xdateN, basC tm), (xshaN, pl)]
abbrev credL : List UInt8 := [65, 87, 83, 52, 45, 72, 77, 65, 67, 45, 83, 72, 65, 50, 53, 54, 32, 67, 114, 101, 100, 101, 110, 116, 105, 97, 108, 61]
abbrev shdL : List UInt8 := [44, 83, 105, 103, 110, 101, 100, 72, 101, 97, 100, 101, 114, 115, 61]
abbrev sgnL : List UInt8 := [44, 83, 105, 103, 110, 97, 116, 117, 114, 101, 61]
def auL (id day jn sg : List UInt8) : List UInt8 := credL ++ id ++ [47] ++ day ++ scopeS ++ shdL ++ jn ++ sgnL ++ sg
theorem auV_mk (id day jn sg : List UInt8) : auV ⟨id.toArray⟩ ⟨day.toArray⟩ ⟨jn.toArray⟩ ⟨sg.toArray⟩ = ⟨(auL id day jn sg).toArray⟩ := by
  unfold auV auL
  simp only [← cat_mk]
noncomputable abbrev keyC (sec : List UInt8) (tm : Int) : List UInt8 := skS sec (dayC tm) usE s3E
/-- a time's signature -/
noncomputable def sigC (sec : List UInt8) (tm : Int) (x : List UInt8) : List UInt8 := signS (keyC sec tm) (basC tm) (dayC tm ++ scopeS) x
/-- what Header answers -/
noncomputable def hdrR (m t : List UInt8) (hd : List Hd) (k : Hd) (tm : Int) (pl : List UInt8) : Sum Int (List Hd) :=
  if fitB k.1 tm = true then (if tkn hd nm3 = true then .inl 332 else match canonL m t (stampH hd tm pl) (nmS (stampH hd tm pl)) pl false with
    | none => .inl 331
    | some x => .inr (stampH hd tm pl ++ [(authN, auL k.1 (dayC tm) (joinL (nmS (stampH hd tm pl)) [59]) (sigC k.2 tm x))])) else .inl 319
/-- bounds on what is signed -/
structure SB (m t : List UInt8) (hd : List Hd) (b : List UInt8) (k : Hd) (tm : Int) (pl : List UInt8) : Prop where
  tot : m.length + t.length + hdW hd + b.length + k.1.length + k.2.length + pl.length ≤ 1048576
  t0 : -9223372036854775808 ≤ tm
  t1 : tm ≤ 9223372036854775807
theorem stampH_W (hd : List Hd) (tm : Int) (pl : List UInt8) : hdW (stampH hd tm pl) ≤ hdW hd + pl.length + 64 := by
  unfold stampH
  rw [hdW_app]
  have := basC_len tm
  have hb : (basC tm).length ≤ 16 := by rw [this]; split <;> omega
  simp only [hdW, List.map_cons, List.map_nil, List.sum_cons, List.sum_nil, List.length_cons, List.length_nil]
  omega
theorem hdW_len' (l : List Hd) : l.length ≤ hdW l := sum_len (fun p : Hd => p.1.length + p.2.length + 1) (fun x => by omega) l
section
variable {m t : List UInt8} {hd : List Hd} {b : List UInt8} {k : Hd} {tm : Int} {pl : List UInt8}
theorem SB.bd (h : SB m t hd b k tm pl) : Bd m t (stampH hd tm pl) (nmS (stampH hd tm pl)) pl := by
  have h1 := h.tot
  have h2 := stampH_W hd tm pl
  have h3 := nmS_W (stampH hd tm pl)
  exact Bd.of (by omega) (by omega)
theorem SB.txt (h : SB m t hd b k tm pl) {x : List UInt8} (hx : canonL m t (stampH hd tm pl) (nmS (stampH hd tm pl)) pl false = some x) : x.length ≤ 67108864 := by
  have h1 := canon_len (nmS_nodup _) hx
  have h2 := h.tot
  have h3 := stampH_W hd tm pl
  have h4 := nmS_W (stampH hd tm pl)
  omega
theorem dayC_le (tm : Int) : (dayC tm).length ≤ 8 := by rw [dayC_len]; split <;> omega
theorem basC_le (tm : Int) : (basC tm).length ≤ 16 := by rw [basC_len]; split <;> omega
theorem keyC_len (sec : List UInt8) (tm : Int) (h : sec.length ≤ 1048576) : (keyC sec tm).length ≤ 1048576 := by
  show (hmacS _ _).length ≤ _
  rw [hmacS_len]; omega
theorem sigC_len (sec : List UInt8) (tm : Int) (x : List UInt8) : (sigC sec tm x).length = 64 := by
  unfold sigC signS; rw [hexL_len2, hmacS_len]
end
theorem cellsP_stamp (hd : List Hd) (tm : Int) (pl : List UInt8) : cellsP (stampH hd tm pl) = cellsP hd ++ [xdateV, .string ⟨(basC tm).toArray⟩, xshaV, .string ⟨pl.toArray⟩] := by
  unfold stampH; rw [cellsP_app]; rfl
theorem header_core (w : World) {m t : List UInt8} {hv bv : Value} {hd : List Hd} {b : List UInt8} {k : Hd} {tm : Int} {pl : List UInt8} (h1 : HdS w hv hd) (h2 : SlAt w bv (bV b)) (B : SB m t hd b k tm pl) :
    Calls Tryz.prog 6 #[rqV m t hv bv, pairV k, .int .i64 tm, strV pl] w fun e w' => Below w.heap.size w w' ∧ match hdrR m t hd k tm pl with
      | .inl e0 => e = .returned (badV e0)
      | .inr l => ∃ hv' bv', e = .returned (.tuple #[rqV m t hv' bv', .int .i64 0]) ∧ FrH w.heap.size w' hv' l ∧ FrAt w.heap.size w' bv' (bV b) := by
  have hb := B.tot
  have hll := hdW_len' hd
  have keep : ∀ {W : World}, Below w.heap.size w W → HdS W hv hd ∧ SlAt W bv (bV b) := fun hB => ⟨h1.below (Nat.le_refl _) hB, h2.below (Nat.le_refl _) hB⟩
  have K17 : ∀ W, Below w.heap.size w W → Calls Tryz.prog 17 #[rqV m t hv bv, pairV k, .int .i64 tm] W fun e w' => e = .returned (.int .i64 (if fitB k.1 tm = true then 0 else 319)) ∧ Below W.heap.size W w' := fun W hB =>
    kBegin (keep hB).1 (keep hB).2 k tm (by omega) B.t0 B.t1
  have K18 : ∀ W nv, Below w.heap.size w W → SlAt W nv [xdateV, xshaV, authVV] → Calls Tryz.prog 18 #[rqV m t hv bv, nv] W fun e w' => e = .returned (.bool (tkn hd nm3)) ∧ Below W.heap.size W w' := fun W nv hB hn =>
    kTaken (keep hB).1 (keep hB).2 (ns := nm3) hn (by omega) (by decide)
  unfold hdrR
  by_cases hf : fitB k.1 tm = true
  · rw [if_pos hf] at K17 ⊢
    cases ht : tkn hd nm3 with
    | true =>
      rw [ht] at K18
      rw [if_pos rfl]
      refine (header_bad2 w _ _ _ _ _ hv bv tm K17 K18).mono ?_
      rintro e w' ⟨rfl, hB⟩
      exact ⟨hB, rfl⟩
    | false =>
      rw [ht] at K18
      rw [if_neg Bool.false_ne_true]
      have K19 : ∀ W, Below w.heap.size w W → Calls Tryz.prog 19 #[rqV m t hv bv] W fun e w' => ∃ hv' bv', e = .returned (rqV m t hv' bv') ∧ w'.ownsRow W.heap.size 47 2 hv' hd.length (cellsP hd) ∧ FrAt W.heap.size w' bv' (bV b) ∧ Apart w' hv' bv' ∧ Below W.heap.size W w' := fun W hB =>
        copied_core W (keep hB).1 (keep hB).2 (by omega) (by omega)
      have K20 : ∀ W, Calls Tryz.prog 20 #[.int .i64 tm] W fun e w' => e = .returned (strV (basC tm)) ∧ Below W.heap.size W w' := fun W => kBasic W tm B.t0 B.t1
      have rowS : ∀ {W : World} {N : Nat} {hv' : Value}, W.ownsRow N 47 2 hv' (hd.length + 2) (cellsP hd ++ [xdateV, .string ⟨(basC tm).toArray⟩, xshaV, .string ⟨pl.toArray⟩]) → HdS W hv' (stampH hd tm pl) := fun h => by
        rw [← cellsP_stamp] at h
        have hl : (stampH hd tm pl).length = hd.length + 2 := by simp [stampH]
        rw [← hl] at h
        exact (FrH.of_row h).at_
      have K21 : ∀ W hv' bv', W.ownsRow (w.heap.size + 3) 47 2 hv' (hd.length + 2) (cellsP hd ++ [xdateV, .string ⟨(basC tm).toArray⟩, xshaV, .string ⟨pl.toArray⟩]) → Calls Tryz.prog 21 #[rqV m t hv' bv'] W fun e w' => ∃ v, e = .returned v ∧ SlAt w' v (sV (nmS (stampH hd tm pl))) ∧ Below W.heap.size W w' := fun W hv' bv' hr =>
        kAll (rowS hr) (by simp [stampH]; omega)
      have K22 : ∀ W hv' bv' nv, W.ownsRow (w.heap.size + 3) 47 2 hv' (hd.length + 2) (cellsP hd ++ [xdateV, .string ⟨(basC tm).toArray⟩, xshaV, .string ⟨pl.toArray⟩]) → FrAt (w.heap.size + 3) W bv' (bV b) → SlAt W nv (sV (nmS (stampH hd tm pl))) →
          Calls Tryz.prog 22 #[rqV m t hv' bv', nv, strV pl, .bool false] W fun e w' => e = .returned (.tuple #[strV ((canonL m t (stampH hd tm pl) (nmS (stampH hd tm pl)) pl false).getD []), .int .i64 (errC (canonL m t (stampH hd tm pl) (nmS (stampH hd tm pl)) pl false))]) ∧ Below W.heap.size W w' := fun W hv' bv' nv hr hf hn =>
        kCanon (rowS hr) hf.at_ hn pl false B.bd
      cases hx : canonL m t (stampH hd tm pl) (nmS (stampH hd tm pl)) pl false with
      | none =>
        rw [hx] at K22
        refine (header_bad3 w _ _ _ _ _ _ _ hv bv tm 331 (by decide) hd.length (cellsP hd) (bV b) _ (by omega) K17 K18 K19 K20 K21 K22).mono ?_
        rintro e w' ⟨rfl, hB⟩
        exact ⟨hB, rfl⟩
      | some x =>
        rw [hx] at K22
        have hxl := B.txt hx
        have hjl := nmS_join (stampH hd tm pl) 59
        have hsw := stampH_W hd tm pl
        have hnl := nmS_len (stampH hd tm pl)
        have hnw := nmS_W (stampH hd tm pl)
        have hdl := dayC_le tm
        have hbl := basC_le tm
        have hsl := sigC_len k.2 tm x
        have hcat : (⟨(dayC tm).toArray⟩ : ByteArray) ++ scB = ⟨(dayC tm ++ scopeS).toArray⟩ := cat_mk _ _
        refine (header_good w _ _ ⟨k.1.toArray⟩ ⟨k.2.toArray⟩ _ _ ⟨(dayC tm).toArray⟩ ⟨x.toArray⟩ ⟨(sigC k.2 tm x).toArray⟩ ⟨(joinL (nmS (stampH hd tm pl)) [59]).toArray⟩ hv bv tm hd.length (cellsP hd) (bV b) _ (bV (keyC k.2 tm)) (by omega) ?_ K17 K18 K19 K20 K21 K22
          (fun W => kDay W tm B.t0 B.t1) (fun W => kKey W k.2 (dayC tm) usE s3E (by omega) (by omega) (by decide) (by decide)) (fun W v hv => ?_)
          (fun W nv hn => kJoin hn [59] (by omega) (by omega))).mono ?_
        · show _ ≤ _
          simp only [ByteArray.size, List.size_toArray]
          omega
        · rw [hcat]
          exact kSign hv (basC tm) (dayC tm ++ scopeS) x (keyC_len _ _ (by omega)) (by omega) (by simp; omega) hxl
        · rintro e w' ⟨g, cap, bv', rfl, hr, hb', hB⟩
          refine ⟨hB, _, bv', rfl, ?_, hb'⟩
          rw [auV_mk, ← cellsP_stamp] at hr
          have hl : (stampH hd tm pl ++ [(authN, auL k.1 (dayC tm) (joinL (nmS (stampH hd tm pl)) [59]) (sigC k.2 tm x))]).length = hd.length + 2 + 1 := by simp [stampH]
          have hr' : w'.ownsRow w.heap.size 47 2 (.slice (some ⟨g, 0, none⟩) (stampH hd tm pl ++ [(authN, auL k.1 (dayC tm) (joinL (nmS (stampH hd tm pl)) [59]) (sigC k.2 tm x))]).length cap) (stampH hd tm pl ++ [(authN, auL k.1 (dayC tm) (joinL (nmS (stampH hd tm pl)) [59]) (sigC k.2 tm x))]).length (cellsP (stampH hd tm pl ++ [(authN, auL k.1 (dayC tm) (joinL (nmS (stampH hd tm pl)) [59]) (sigC k.2 tm x))])) := by
            rw [hl, cellsP_app]; exact hr
          have := (FrH.of_row hr').clip
          rwa [hl] at this
  · rw [if_neg hf] at K17 ⊢
    refine (header_bad1 w _ _ _ _ _ hv bv tm 319 (by decide) K17).mono ?_
    rintro e w' ⟨rfl, hB⟩
    exact ⟨hB, rfl⟩
end Go.Proofs.YtdigohaeakclfaaGreatDoor
set_option linter.unusedSectionVars false
set_option linter.unusedVariables false
set_option linter.unusedSimpArgs false
namespace Go.Am
open Go
variable [Tab]
section
variable {P : Program} {G : Gh} {w : World} {ρ : List Nat} {fr : Fr} {H : Heap}
end
section
variable {P : Program} {f : FuncId} {n k0 : Nat} {S : List Item} {fr : Fr} {H : Heap} {res : AV} {H' : Heap}
end
end Go.Am
set_option linter.unusedSectionVars false
set_option linter.unusedVariables false
namespace Go.Am
open Go
theorem WI.noTab {T0 T1 : Tab} (h0 : ∀ b, T0.k b = none) {G : Gh} {w : World} (h : @WI T1 G w) : @WI T0 G w :=
  @WI.mk T0 G w (@WI.own T1 _ _ h) (@WI.old T1 _ _ h) (@WI.one T1 _ _ h) (fun b cs e => by rw [h0 b] at e; cases e)
theorem WI.addTab {T0 T1 : Tab} {G G' : Gh} {w w' : World} (h : @WI T1 G w) (h' : @WI T0 G' w') (ht : Trans G w G' w') : @WI T1 G' w' :=
  @WI.mk T1 G' w' (@WI.own T0 _ _ h') (@WI.old T0 _ _ h') (@WI.one T0 _ _ h') (@TabOK.trans T1 _ _ _ _ ht (@WI.tab T1 _ _ h))
theorem FnOK.anyTab {T0 : Tab} (T1 : Tab) (h0 : ∀ b, T0.k b = none) {P : Program} {f : FuncId} {args : List AV} {H : Heap} {res : AV} {H' : Heap} (h : @FnOK T0 P f args H res H') : @FnOK T1 P f args H res H' := by
  intro w G ρ vs hl ha hb hw
  refine (h w G ρ vs hl ha hb (WI.noTab h0 hw)).mono ?_
  rintro e w' ⟨v, G', ρ', rfl, t1, t2, t3⟩
  exact ⟨v, G', ρ', rfl, t1, WI.addTab hw t2 t1, t3⟩
end Go.Am
set_option maxRecDepth 100000
set_option linter.unusedVariables false
set_option linter.unusedSimpArgs false
set_option linter.unusedSectionVars false
namespace Go.Proofs.YtdigohaeakclfaaGreatDoor
open Go Go.Am Go.RowKit
open Classical in
/-- who owns what behind a call that leaves fresh cells -/
noncomputable def frS (S : Nat → Nat → Prop) (G : Gh) : Gh := fun b o => if S b o then .frz else G b o
def FrSet (S : Nat → Nat → Prop) (w w' : World) : Prop := ∀ b o, S b o → w.heap.size ≤ b ∧ ∃ u, w'.cell? (mkA b o) = some u ∧ u.oneCell' = true ∧ w'.frozen? (mkA b o) = false
section
variable {S : Nat → Nat → Prop} {G : Gh} {w w' : World}
theorem frS_tr (hB : Below w.heap.size w w') (hw : WI G w) (hS : FrSet S w w') : Trans G w (frS S G) w' := by
  have hlt : ∀ b o, (G b o = .frz ∨ G b o = .ctx) → b < w.heap.size := fun b o e => hw.lt (b := b) (o := o) (by rcases e with e | e <;> rw [e] <;> simp)
  refine ⟨hB.os, hB.tape, hB.output, hB.size, fun b o e => ?_, fun b o e => ?_, fun b o e => Below.at_ hB (hlt b o e), fun b hb _ => hB.block b hb, fun b o e1 e2 => ?_⟩
  · unfold frS; split <;> simp [e]
  · unfold frS; rw [if_neg (fun h => by have := hlt _ o (.inr e); have := (hS _ _ h).1; omega)]; exact e
  · unfold frS at e2
    split at e2
    · rename_i h
      obtain ⟨_, u, _, _, h3⟩ := hS _ _ h
      exact h3
    · exact absurd e2 e1
theorem frS_wi (hB : Below w.heap.size w w') (hw : WI G w) (hS : FrSet S w w') : WI (frS S G) w' := by
  have hw' := Below.wi hB hw
  refine ⟨fun b o e => ?_, fun b o hb => ?_, fun b o v e hv => ?_, hw.tab.trans (frS_tr hB hw hS)⟩
  · unfold frS at e
    split at e
    · simp [Own.mine] at e
    · exact hw'.own b o e
  · unfold frS
    rw [if_neg]
    · exact hw'.old b o hb
    · intro h
      obtain ⟨_, u, h1, _⟩ := hS _ _ h
      have := World.block_lt_of_cell? _ _ h1
      simp [mkA] at this
      omega
  · unfold frS at e
    split at e
    · rename_i h
      obtain ⟨_, u, h1, h2, _⟩ := hS _ _ h
      rw [h1] at hv; cases hv; exact h2
    · exact hw'.one b o v e hv
end
/-- the cells of fresh rows -/
def rowS (v : Value) (n : Nat) : Nat → Nat → Prop := fun b o => ∃ (p : Nat × Nat) (m cap q : Nat), v = .slice (some (mkA p.1 p.2)) m cap ∧ q < n ∧ b = p.1 ∧ o = p.2 + q
theorem mkA_inj {b o b' o' : Nat} (h : mkA b o = mkA b' o') : b = b' ∧ o = o' := by
  simp only [mkA, Addr.mk.injEq, and_true] at h; exact h
theorem cellsP_one (l : List Hd) : ∀ u ∈ cellsP l, u.oneCell' = true := fun u hu => by
  obtain ⟨p, _, hp⟩ := List.mem_flatMap.1 hu
  simp at hp
  rcases hp with rfl | rfl <;> rfl
theorem FrH.set_ {w w' : World} {v : Value} {l : List Hd} (h : FrH w.heap.size w' v l) : FrSet (rowS v (l.length * 2)) w w' := by
  obtain ⟨base, cap, h1, h2, h3, h4⟩ := h
  rintro b o ⟨p, m, cap', q, e1, hq, rfl, rfl⟩
  rw [h1] at e1
  cases base with
  | none => simp at e1
  | some r =>
    simp only [Option.map_some, Value.slice.injEq, Option.some.injEq] at e1
    obtain ⟨e2, e3⟩ := mkA_inj e1.1
    have hq' : q < (cellsP l).length := by rw [cellsP_len]; exact hq
    have := h4 r.1 r.2 rfl q _ (List.getElem?_eq_getElem hq')
    rw [← e2, ← e3]
    exact ⟨this.2.1, _, this.1, cellsP_one l _ (List.getElem_mem hq'), this.2.2⟩
theorem FrAt.set_ {w w' : World} {v : Value} {xs : List Value} (h : FrAt w.heap.size w' v xs) (h1 : ∀ u ∈ xs, u.oneCell' = true) : FrSet (rowS v xs.length) w w' := by
  obtain ⟨base, cap, h0, h2, h3, h4⟩ := h
  rintro b o ⟨p, m, cap', q, e1, hq, rfl, rfl⟩
  rw [h0] at e1
  cases base with
  | none => simp at e1
  | some r =>
    simp only [Option.map_some, Value.slice.injEq, Option.some.injEq] at e1
    obtain ⟨e2, e3⟩ := mkA_inj e1.1
    have := h4 r.1 r.2 rfl q _ (List.getElem?_eq_getElem hq)
    rw [← e2, ← e3]
    exact ⟨this.2.1, _, this.1, h1 _ (List.getElem_mem hq), this.2.2⟩
theorem FrH.vr {w' : World} {v : Value} {l : List Hd} {G' : Gh} {N : Nat} (h : FrH N w' v l) (hG : ∀ b o, rowS v (l.length * 2) b o → G' b o = .frz) : VR G' w' [] (.sl 2 l.length (hdEl l) false) v := by
  obtain ⟨base, cap, rfl, h2, h3, h4⟩ := h
  refine .sl _ _ _ _ _ base cap (fun q => (cellsP l).getD q undef) h2 h3 (fun i hi => rfl) (fun b o e q hq => ?_) (fun i j c hi hj => ?_)
  · have hq' : q < (cellsP l).length := by rw [cellsP_len]; exact hq
    have := h4 b o e q _ (List.getElem?_eq_getElem hq')
    refine ⟨hG _ _ ⟨(b, o), l.length, cap, q, by rw [e]; rfl, hq, rfl, rfl⟩, ?_⟩
    rw [this.1, List.getD_eq_getElem?_getD, List.getElem?_eq_getElem hq']; rfl
  · obtain ⟨g1, g2⟩ := cellsP_get hi
    match j, hj with
    | 0, hj =>
      simp [AV.cells] at hj
      subst hj
      rw [Nat.add_zero, List.getD_eq_getElem?_getD, g1]
      simp only [List.getD_eq_getElem?_getD]
      exact .str ..
    | 1, hj =>
      simp [AV.cells] at hj
      subst hj
      rw [List.getD_eq_getElem?_getD, g2]
      simp only [List.getD_eq_getElem?_getD]
      exact .str ..
    | j + 2, hj => simp [AV.cells] at hj
theorem FrAt.vr {w' : World} {v : Value} {l : List UInt8} {G' : Gh} {N : Nat} (h : FrAt N w' v (bV l)) (hG : ∀ b o, rowS v l.length b o → G' b o = .frz) : VR G' w' [] (.bs l false) v := by
  obtain ⟨base, cap, h1, h2, h3, h4⟩ := h
  rw [bV_len] at h1 h2
  subst h1
  refine .bs _ _ _ _ (.sl _ _ _ _ _ base cap (fun q => (bV l).getD q undef) h2 h3 (fun i hi => rfl) (fun b o e q hq => ?_) (fun i j c hi hj => ?_))
  · have hq' : q < (bV l).length := by rw [bV_len]; omega
    have := h4 b o e q _ (List.getElem?_eq_getElem hq')
    refine ⟨hG _ _ ⟨(b, o), l.length, cap, q, by rw [e]; rfl, by omega, rfl, rfl⟩, ?_⟩
    rw [this.1, List.getD_eq_getElem?_getD, List.getElem?_eq_getElem hq']; rfl
  · have hj' : j = 0 := by have := (List.getElem?_eq_some_iff.1 hj).1; simp [byteEl, AV.cells] at this; omega
    subst hj'
    simp [byteEl, AV.cells] at hj
    subst hj
    have : (bV l).getD (i * 1 + 0) undef = .int .u8 ((l[i]?.getD 0).toNat) := by simp [bV, List.getD_eq_getElem?_getD, List.getElem?_eq_getElem hi]
    rw [this]
    exact .int _ _ _
theorem hdS_of {G : Gh} {w : World} {ρ : List Nat} {l : List Hd} {o : Bool} {v : Value} (h : VR G w ρ (.sl 2 l.length (hdEl l) o) v) : HdS w v l := by
  obtain ⟨base, cap, vs, rfl, e1, e2, e3, e4, e5⟩ := h.sl_inv
  refine ⟨base, cap, rfl, e1, e2, fun b o hb i hi => ?_⟩
  have c0 := e4 b o hb (i * 2) (by omega)
  have c1 := e4 b o hb (i * 2 + 1) (by omega)
  have v0 := e5 i 0 (.str (l.getD i ([], [])).1) hi rfl
  have v1 := e5 i 1 (.str (l.getD i ([], [])).2) hi rfl
  rw [Nat.add_zero] at v0
  refine ⟨?_, ?_⟩
  · rw [c0.2, v0.str_inv]
  · rw [Nat.add_assoc, c1.2, v1.str_inv]
/-- a request and an error, told -/
def resA (m t : List UInt8) (l : List Hd) (b : List UInt8) (e : Int) : AV := .tup [.agg [.str m, .str t, .sl 2 l.length (hdEl l) false, .bs b false], .int .i64 e]
def hdrA (m t b : List UInt8) : Sum Int (List Hd) → AV
  | .inl e => resA [] [] [] [] e
  | .inr l => resA m t l b 0
theorem vr_res {G : Gh} {w : World} {m t : List UInt8} {l : List Hd} {b : List UInt8} {e : Int} {hv bv : Value} (h1 : VR G w [] (.sl 2 l.length (hdEl l) false) hv) (h2 : VR G w [] (.bs b false) bv) :
    VR G w [] (resA m t l b e) (.tuple #[rqV m t hv bv, .int .i64 e]) :=
  .tup _ _ [rqV m t hv bv, .int .i64 e] rfl fun q c v e1 e2 => by
    match q, e1, e2 with
    | 0, e1, e2 =>
      cases e1; cases e2
      exact .agg _ _ [strV m, strV t, hv, bv] rfl fun q c v e1 e2 => by
        match q, e1, e2 with
        | 0, e1, e2 => cases e1; cases e2; exact .str ..
        | 1, e1, e2 => cases e1; cases e2; exact .str ..
        | 2, e1, e2 => cases e1; cases e2; exact h1
        | 3, e1, e2 => cases e1; cases e2; exact h2
        | q + 4, e1, _ => simp at e1
    | 1, e1, e2 => cases e1; cases e2; exact .int ..
    | q + 2, e1, _ => simp at e1
theorem vr_nilH (G : Gh) (w : World) : VR G w [] (.sl 2 ([] : List Hd).length (hdEl []) false) (.slice none 0 0) :=
  .sl _ _ _ _ _ none 0 (fun _ => undef) (Nat.le_refl _) (fun _ => rfl) (fun i h => absurd h (Nat.not_lt_zero _)) (fun b o h => by simp at h) (fun i j c h => absurd h (Nat.not_lt_zero _))
theorem vr_nilB (G : Gh) (w : World) : VR G w [] (.bs [] false) (.slice none 0 0) :=
  .bs _ _ _ _ (.sl _ _ _ _ _ none 0 (fun _ => undef) (Nat.le_refl _) (fun _ => rfl) (fun i h => absurd h (Nat.not_lt_zero _)) (fun b o h => by simp at h) (fun i j c h => absurd h (Nat.not_lt_zero _)))
abbrev reqA (m t : List UInt8) (hd : List Hd) (b : List UInt8) : AV := .agg [.str m, .str t, .sl 2 hd.length (hdEl hd) false, .bs b false]
/-- a request, read -/
theorem rq_inv {G : Gh} {w : World} {m t : List UInt8} {hd : List Hd} {b : List UInt8} {v : Value} (h : VR G w [] (reqA m t hd b) v) : ∃ hv bv, v = rqV m t hv bv ∧ HdS w hv hd ∧ SlAt w bv (bV b) := by
  obtain ⟨vs, rfl, hl, hv⟩ := h.agg_inv
  match vs, hl with
  | [a0, a1, a2, a3], _ =>
    have h0 := (hv 0 _ a0 rfl rfl).str_inv
    have h1 := (hv 1 _ a1 rfl rfl).str_inv
    subst h0 h1
    exact ⟨a2, a3, rfl, hdS_of (hv 2 _ a2 rfl rfl), slAt_of_bs (hv 3 _ a3 rfl rfl)⟩
theorem pair_inv {G : Gh} {w : World} {k : Hd} {v : Value} (h : VR G w [] (.agg [.str k.1, .str k.2]) v) : v = pairV k := by
  obtain ⟨vs, rfl, hl, hv⟩ := h.agg_inv
  match vs, hl with
  | [a0, a1], _ =>
    rw [(hv 0 _ a0 rfl rfl).str_inv, (hv 1 _ a1 rfl rfl).str_inv]
/-- from a walk that leaves a request in new memory to a contract -/
theorem fresh_req {G : Gh} {w w' : World} {m t : List UInt8} {l : List Hd} {b : List UInt8} {e : Int} {hv bv : Value} (hw : WI G w) (hB : Below w.heap.size w w') (h1 : FrH w.heap.size w' hv l) (h2 : FrAt w.heap.size w' bv (bV b)) :
    ∃ G', Trans G w G' w' ∧ WI G' w' ∧ VR G' w' [] (resA m t l b e) (.tuple #[rqV m t hv bv, .int .i64 e]) := by
  have hS : FrSet (fun b' o => rowS hv (l.length * 2) b' o ∨ rowS bv b.length b' o) w w' := by
    rintro b' o (h | h)
    · exact h1.set_ _ _ h
    · have := h2.set_ bV_one
      rw [bV_len] at this
      exact this _ _ h
  exact ⟨_, frS_tr hB hw hS, frS_wi hB hw hS, vr_res (h1.vr fun b' o h => by unfold frS; rw [if_pos (.inl h)]) (h2.vr fun b' o h => by unfold frS; rw [if_pos (.inr h)])⟩
theorem header_ok (m t : List UInt8) (hd : List Hd) (b : List UInt8) (k : Hd) (tm : Int) (pl : List UInt8) (B : SB m t hd b k tm pl) :
    FnOK Tryz.prog 6 [reqA m t hd b, .agg [.str k.1, .str k.2], .int .i64 tm, .str pl] [] (hdrA m t b (hdrR m t hd k tm pl)) [] := by
  intro w G ρ vs hlen ha hb hw
  have hρ : ρ = [] := List.eq_nil_of_length_eq_zero (by rw [← hb.len]; rfl)
  subst hρ
  match vs, hlen with
  | [a0, a1, a2, a3], _ =>
    obtain ⟨hv, bv, rfl, h1, h2⟩ := rq_inv (ha 0 _ a0 rfl rfl).1
    have e1 := pair_inv (k := k) (ha 1 _ a1 rfl rfl).1
    have e2 := (ha 2 _ a2 rfl rfl).1.int_inv
    have e3 := (ha 3 _ a3 rfl rfl).1.str_inv
    subst e1 e2 e3
    refine (header_core w h1 h2 B).mono ?_
    rintro e w' ⟨hB, hr⟩
    revert hr
    cases hdrR m t hd k tm pl with
    | inl e0 =>
      rintro rfl
      exact ⟨_, G, [], rfl, Below.tr hB hw, Below.wi hB hw, rfl, nil_br, vr_res (m := []) (t := []) (vr_nilH _ _) (vr_nilB _ _), SpV_nr rfl⟩
    | inr l =>
      rintro ⟨hv', bv', rfl, g1, g2⟩
      obtain ⟨G', k1, k2, k3⟩ := fresh_req (m := m) (t := t) (e := 0) hw hB g1 g2
      exact ⟨_, G', [], rfl, k1, k2, rfl, nil_br, k3, SpV_nr rfl⟩
end Go.Proofs.YtdigohaeakclfaaGreatDoor
namespace Go.Proofs
open Go.Shelf
def Tryz.laysM171_ren : Go.Shelf.Ren := ⟨fun | 171 => 80 | 243 => 119 | 246 => 155 | 283 => 175 | 284 => 176 | 285 => 177 | 286 => 178 | 129 => 140 | 317 => 183 | 318 => 184 | 319 => 185 | 320 => 186 | 337 => 188 | 338 => 189 | n => n, fun | 3 => 3 | 9 => 9 | 2 => 2 | 4 => 4 | 171 => 191 | 0 => 0 | 53 => 166 | 37 => 23 | 5 => 5 | 173 => 193 | 212 => 201 | 51 => 141 | 20 => 20 | 213 => 202 | 46 => 122 | 232 => 204 | 233 => 205 | n => n, fun | 17 => 1 | 18 => 2 | 19 => 3 | n => n⟩
theorem Tryz.laysM171 : Go.Proofs.LaysM.n171 Tryz.prog Tryz.laysM171_ren := {
  mixed := by kernel_rfl
  f129 := Tryz.func140.trans (congrArg some (by kernel_rfl))
  f171 := Tryz.func80.trans (congrArg some (by kernel_rfl))
  f243 := Tryz.func119.trans (congrArg some (by kernel_rfl))
  f246 := Tryz.func155.trans (congrArg some (by kernel_rfl))
  f283 := Tryz.func175.trans (congrArg some (by kernel_rfl))
  f284 := Tryz.func176.trans (congrArg some (by kernel_rfl))
  f285 := Tryz.func177.trans (congrArg some (by kernel_rfl))
  f286 := Tryz.func178.trans (congrArg some (by kernel_rfl))
  f317 := Tryz.func183.trans (congrArg some (by kernel_rfl))
  f318 := Tryz.func184.trans (congrArg some (by kernel_rfl))
  f319 := Tryz.func185.trans (congrArg some (by kernel_rfl))
  f320 := Tryz.func186.trans (congrArg some (by kernel_rfl))
  f337 := Tryz.func188.trans (congrArg some (by kernel_rfl))
  f338 := Tryz.func189.trans (congrArg some (by kernel_rfl))
  t0 := Tryz.underlying0
  a0 := Tryz.isAgg0
  z0 := Tryz.sizeOf0
  v0 := Tryz.zeroValue0
  t2 := Tryz.underlying2
  a2 := Tryz.isAgg2
  z2 := Tryz.sizeOf2
  v2 := Tryz.zeroValue2
  t3 := Tryz.underlying3
  a3 := Tryz.isAgg3
  z3 := Tryz.sizeOf3
  v3 := Tryz.zeroValue3
  t4 := Tryz.underlying4
  a4 := Tryz.isAgg4
  z4 := Tryz.sizeOf4
  v4 := Tryz.zeroValue4
  t5 := Tryz.underlying5
  a5 := Tryz.isAgg5
  z5 := Tryz.sizeOf5
  v5 := Tryz.zeroValue5
  t9 := Tryz.underlying9
  a9 := Tryz.isAgg9
  z9 := Tryz.sizeOf9
  v9 := Tryz.zeroValue9
  t20 := Tryz.underlying20
  a20 := Tryz.isAgg20
  z20 := Tryz.sizeOf20
  v20 := Tryz.zeroValue20
  t37 := Tryz.underlying23
  a37 := Tryz.isAgg23
  z37 := Tryz.sizeOf23
  v37 := Tryz.zeroValue23
  t46 := Tryz.underlying122
  a46 := Tryz.isAgg122
  z46 := Tryz.sizeOf122
  v46 := Tryz.zeroValue122
  t51 := Tryz.underlying141
  a51 := Tryz.isAgg141
  z51 := Tryz.sizeOf141
  v51 := Tryz.zeroValue141
  t53 := Tryz.underlying166
  a53 := Tryz.isAgg166
  z53 := Tryz.sizeOf166
  v53 := Tryz.zeroValue166
  t171 := Tryz.underlying191
  a171 := Tryz.isAgg191
  z171 := Tryz.sizeOf191
  v171 := Tryz.zeroValue191
  t173 := Tryz.underlying193
  a173 := Tryz.isAgg193
  z173 := Tryz.sizeOf193
  v173 := Tryz.zeroValue193
  t212 := Tryz.underlying201
  a212 := Tryz.isAgg201
  z212 := Tryz.sizeOf201
  v212 := Tryz.zeroValue201
  t213 := Tryz.underlying202
  a213 := Tryz.isAgg202
  z213 := Tryz.sizeOf202
  t232 := Tryz.underlying204
  a232 := Tryz.isAgg204
  z232 := Tryz.sizeOf204
  v232 := Tryz.zeroValue204
  t233 := Tryz.underlying205
  a233 := Tryz.isAgg205
  z233 := Tryz.sizeOf205
  v233 := Tryz.zeroValue205
  g17 := by kernel_rfl
  g18 := by kernel_rfl
  g19 := by kernel_rfl
  i0 := by kernel_rfl
  i2 := by kernel_rfl
  i3 := by kernel_rfl
  i4 := by kernel_rfl
  i5 := by kernel_rfl
  i9 := by kernel_rfl
  i20 := by kernel_rfl
  i37 := by kernel_rfl
  i46 := by kernel_rfl
  i51 := by kernel_rfl
  i53 := by kernel_rfl
  i171 := by kernel_rfl
  i173 := by kernel_rfl
  i212 := by kernel_rfl
  i232 := by kernel_rfl
  i233 := by kernel_rfl
  m17 := by kernel_rfl
  m18 := by kernel_rfl
  m19 := by kernel_rfl }
open Go.RowKit Go.Sort Go.Lib in
theorem Tryz.strconv_Itoa (n : Int) (h0 : -9223372036854775808 ≤ n) (h1 : n ≤ 9223372036854775807) (w : World) (htab : Lib.TabIs Tryz.prog w "internal/strconv.uint64pow10" .u64 Lib.pow10Tab) :
    Calls Tryz.prog 80 #[.int .i64 n] w fun e w' => e = .returned (.string ⟨(Lib.itoa n).toArray⟩) ∧ ∃ k os, w' = grow (w.drewN k) os := Any.strconv_Itoa Tryz.laysM171 n h0 h1 w htab
end Go.Proofs
set_option linter.unusedSectionVars false
set_option linter.unusedVariables false
namespace Go.Am
open Go
variable [Tab]
variable {P : Program} {fr : Fr} {H : Heap} {o : Oper}
def nilz (v : Value) (a : AV) : AV := match v with
  | .slice none 0 0 => .nilsl
  | _ => a
def zeroN (P : Program) (t : TypeId) : Option (List AV) := match zeroE P t, P.info? t with
  | some cs, some i => (match i.zero with | some z => some (List.zipWith nilz z.cells.toList cs) | none => none)
  | _, _ => none
theorem nilz_vr {G : Gh} {w : World} {ρ : List Nat} {a : AV} {v : Value} (h : VR G w ρ a v) : VR G w ρ (nilz v a) v := by
  unfold nilz
  split
  · exact .nilsl _
  · exact h
theorem zeroN_vrs {t : TypeId} {zs : List AV} (h : zeroN P t = some zs) : ∃ (z : Value) (vs : List Value) (i : TypeInfo), P.info? t = some i ∧ i.zero = some z ∧ z.cells = vs.toArray ∧ ∀ G w ρ, VRs G w ρ zs vs := by
  unfold zeroN at h
  split at h
  · rename_i cs i hz hi
    split at h
    · rename_i z hz2
      simp only [Option.some.injEq] at h
      subst h
      obtain ⟨z', vs, i', h1, h2, h3, h4, h5, h6, h7⟩ := zero_sound hz
      rw [hi] at h1
      cases h1
      rw [hz2] at h2
      cases h2
      refine ⟨z, vs, i, hi, hz2, h3, fun G w ρ => ?_⟩
      obtain ⟨k1, k2⟩ := h6 G w ρ
      rw [h3]
      refine ⟨by simp; omega, fun q c v e1 e2 => ?_⟩
      simp only [List.getElem?_zipWith] at e1
      rw [show (vs.toArray.toList)[q]? = vs[q]? by simp] at e1
      rw [e2] at e1
      cases hc : cs[q]? with
      | none => rw [hc] at e1; simp at e1
      | some c' =>
        rw [hc] at e1
        simp only [Option.some.injEq] at e1
        subst e1
        exact nilz_vr (k2 q c' v hc e2)
    · simp at h
  · simp at h
theorem OpSem.buildN {t : TypeId} {parts : Array (Nat × Operand)} {fs : Array Field} {l : List (Nat × Nat)} {zs cs : List AV} (ho : o.op = .build t parts) (hz : zeroN P t = some zs) (hu : P.underlying t = some (.struct fs)) (hl : placesOf P fs.toList = some l)
    (hf : fillE (fun i => l[i]?) zs (partsE P 0 fr parts) = some cs) : OpSem P o fr H (.agg cs) fr H := by
  refine OpSem.same (fun a w G ρ n hi => ?_) (fun G t x => SpV_nr rfl)
  obtain ⟨e1, e2⟩ := parts_rel (P := P) (t := 0) hi.fr parts
  obtain ⟨z, vs, i, h1, h2, h3, h6⟩ := zeroN_vrs hz
  obtain ⟨res, g1, g2⟩ := fill_sound (G := G) (w := w) (ρ := ρ) _ (partsE P 0 fr parts) _ zs vs.toArray cs hf e1 e2 (by simpa using h6 G w ρ)
  refine ⟨.agg res, ?_, by have := VR.agg (G := G) (w := w) ρ cs res.toList g2.1 g2.2; simpa using this⟩
  have hpl : (fs.mapM (m := Sem) fun f => do Pure.pure (f.offset, ← sizeOf f.type)).run P w = .ok l.toArray w := by
    have := places_run P w hl
    rw [← Array.toArray_toList (xs := fs), List.mapM_toArray, Sem.run_map, this]
    rfl
  have hfun : (fun (i : Nat) => l[i]?) = fun (i : Nat) => l.toArray[i]? := by funext i; simp
  rw [hfun] at g1
  have : (parts.map fun (x : Nat × Operand) => (x.1, a.eval x.2)) = (parts.toList.map fun p => (p.1, a.eval p.2)).toArray := by
    apply Array.ext'; simp
  simp only [execOp, ho, this]
  simp only [Instr.build, Sem.run_bind, zeroValue, run_ti h1, h2, Result.andThen_ok, Sem.run_pure, run_und hu, hpl, h3, g1]
/-- a nil slice has all the room that it needs -/
theorem Imp.nilsl {sz : Nat} {el : Nat → AV} {o : Bool} : Imp .nilsl (.sl sz 0 el o) := fun G w ρ v h => by
  cases h
  exact ⟨.sl _ _ _ _ _ none 0 (fun _ => undef) (Nat.le_refl _) (fun _ => rfl) (fun i h => absurd h (Nat.not_lt_zero _)) (fun b o h => by simp at h) (fun i j c h => absurd h (Nat.not_lt_zero _)), fun T _ => Sp_none ..⟩
end Go.Am
