/- What the law Orders asks of the functions. -/
import Derived.Test.YtnohmijdpmelpaaGreatArg
set_option maxRecDepth 100000
set_option linter.unusedVariables false
set_option linter.unusedSimpArgs false
namespace Go.Proofs.YtnohmijdpmelpaaGreat
open Go Go.Am
/-- blanks folded, behind a blank or not -/
def hB : Bool → List UInt8 → List UInt8
  | _, [] => []
  | p, c :: r => if blk c = true then (if p = true then hB true r else 32 :: hB true r) else c :: hB false r
def lB : Bool → List UInt8 → Bool
  | p, [] => p
  | _, c :: r => lB (blk c) r
theorem hB_cons (p : Bool) (c : UInt8) (r : List UInt8) : hB p (c :: r) = if blk c = true then (if p = true then hB true r else 32 :: hB true r) else c :: hB false r := rfl
theorem lB_app : ∀ (p : Bool) (s r : List UInt8), lB p (s ++ r) = lB (lB p s) r
  | p, [], r => rfl
  | p, c :: s, r => lB_app (blk c) s r
theorem hB_app : ∀ (p : Bool) (s r : List UInt8), hB p (s ++ r) = hB p s ++ hB (lB p s) r
  | p, [], r => rfl
  | p, c :: s, r => by
    rw [List.cons_append, hB_cons, hB_cons, show lB p (c :: s) = lB (blk c) s from rfl]
    cases hc : blk c with
    | true =>
      simp only [if_true]
      rw [hB_app true s r]
      split <;> rfl
    | false =>
      simp only [Bool.false_eq_true, if_false]
      rw [hB_app false s r]; rfl
theorem fold_h {t : List UInt8} (hd : t ≠ [] → blk (t.getD 0 0) = false) : ∀ i, i ≤ t.length → foldN t i = hB true (t.take i) ∧ (0 < i → lB true (t.take i) = blk (t.getD (i - 1) 0))
  | 0, _ => ⟨by simp [foldN, hB], fun h => by omega⟩
  | i + 1, h => by
    obtain ⟨ih1, ih2⟩ := fold_h hd i (by omega)
    rw [take_snoc 0 (show i < t.length from h), hB_app, lB_app]
    refine ⟨?_, fun _ => rfl⟩
    cases hb : blk (t.getD i 0) with
    | false =>
      rw [fold_no hb, ih1]
      generalize t.getD i 0 = c at hb
      rw [hB_cons, if_neg (by rw [hb]; exact Bool.false_ne_true)]; rfl
    | true =>
      have hp : 0 < i := fold_pos hd hb (by omega)
      have hl := ih2 hp
      cases hb2 : blk (t.getD (i - 1) 0) with
      | true =>
        rw [fold_dup hb hb2, ih1, hl, hb2]
        generalize t.getD i 0 = c at hb
        rw [hB_cons, if_pos hb, if_pos rfl]; simp [hB]
      | false =>
        rw [fold_sp hb hb2, ih1, hl, hb2]
        generalize t.getD i 0 = c at hb
        rw [hB_cons, if_pos hb, if_neg Bool.false_ne_true]; rfl
theorem hB_ltrim : ∀ s : List UInt8, hB true (ltrim s) = hB true s
  | [] => rfl
  | c :: r => by
    unfold ltrim
    cases hc : blk c with
    | true =>
      rw [List.dropWhile_cons_of_pos hc]
      have ih := hB_ltrim r
      unfold ltrim at ih
      rw [ih]
      conv => rhs; unfold hB
      simp [hc]
    | false => rw [List.dropWhile_cons_of_neg (by simp [hc])]
theorem rtrim_blank {X z : List UInt8} (hz : ∀ c ∈ z, blk c = true) : rtrim (X ++ z) = rtrim X := by
  unfold rtrim
  rw [List.reverse_append, List.dropWhile_append_of_pos (fun c hc => hz c (List.mem_reverse.1 hc))]
theorem rtrim_split (u : List UInt8) : ∃ z : List UInt8, u = rtrim u ++ z ∧ ∀ c ∈ z, blk c = true := by
  refine ⟨(u.reverse.takeWhile blk).reverse, ?_, fun c hc => ?_⟩
  · unfold rtrim
    rw [← List.reverse_append, List.takeWhile_append_dropWhile, List.reverse_reverse]
  · exact List.all_eq_true.1 List.all_takeWhile c (List.mem_reverse.1 hc)
/-- it does not end in a blank -/
def Ends (X : List UInt8) : Prop := rtrim X = X
theorem ends_rtrim (u : List UInt8) : Ends (rtrim u) := by
  obtain ⟨z, h, hz⟩ := rtrim_split u
  have := rtrim_blank (X := rtrim u) hz
  rw [← h] at this
  exact this.symm
theorem ends_snoc {y : List UInt8} {c : UInt8} (h : blk c = false) : Ends (y ++ [c]) := by
  unfold Ends rtrim
  rw [List.reverse_append]
  simp [h]
theorem snoc_cases (v : List UInt8) : v = [] ∨ ∃ y c, v = y ++ [c] := by
  rcases List.eq_nil_or_concat v with h | ⟨y, c, h⟩
  · exact .inl h
  · exact .inr ⟨y, c, by rw [h]; simp⟩
theorem ends_h {v : List UInt8} (h : Ends v) (p : Bool) : Ends (hB p v) := by
  rcases snoc_cases v with rfl | ⟨y, c, rfl⟩
  · exact rfl
  · have hc : blk c = false := by
      cases hb : blk c with
      | false => rfl
      | true =>
        unfold Ends at h
        rw [rtrim_blank (fun x hx => by simp at hx; subst hx; exact hb)] at h
        have h2 := congrArg List.length h
        have h3 : (rtrim y).length ≤ y.length := by
          unfold rtrim; rw [List.length_reverse]; exact Nat.le_trans (List.dropWhile_suffix _).length_le (by simp)
        simp only [List.length_append, List.length_cons, List.length_nil] at h2
        omega
    rw [hB_app]
    have : hB (lB p y) [c] = [c] := by simp [hB, hc]
    rw [this]
    exact ends_snoc hc
theorem hB_blank : ∀ (z : List UInt8) (p : Bool), (∀ c ∈ z, blk c = true) → ∀ c ∈ hB p z, blk c = true
  | [], p, _, c, hc => by simp [hB] at hc
  | x :: z, p, h, c, hc => by
    have hx := h x List.mem_cons_self
    have ih := hB_blank z true (fun c hc => h c (List.mem_cons_of_mem _ hc))
    unfold hB at hc
    rw [if_pos hx] at hc
    split at hc
    · exact ih c hc
    · rcases List.mem_cons.1 hc with rfl | hc
      · decide
      · exact ih c hc
theorem fold_eq (s : List UInt8) : foldL s = rtrim (hB true s) := by
  have h1 := (fold_h (trimL_head s) (trimL s).length (Nat.le_refl _)).1
  rw [List.take_length] at h1
  have h2 : foldL s = hB true (rtrim (ltrim s)) := h1
  rw [h2, ← hB_ltrim s]
  obtain ⟨z, hz, hb⟩ := rtrim_split (ltrim s)
  conv => rhs; rw [hz, hB_app, rtrim_blank (hB_blank z _ hb)]
  exact (ends_h (ends_rtrim _) true).symm
theorem fold_same (v : List UInt8) : foldL (v ++ [32, 32] ++ v) = foldL ([32] ++ v ++ [32, 9] ++ v ++ [9]) := by
  rw [fold_eq, fold_eq]
  have b32 : blk 32 = true := rfl
  have b9 : blk 9 = true := rfl
  have e1 : hB true (v ++ [32, 32] ++ v) = hB true v ++ hB (lB true v) [32, 32] ++ hB true v := by
    rw [hB_app, hB_app, lB_app]; rfl
  have e2 : hB true ([32] ++ v ++ [32, 9] ++ v ++ [9]) = (hB true v ++ hB (lB true v) [32, 32] ++ hB true v) ++ hB (lB true v) [9] := by
    have f1 : hB true ([32] ++ v) = hB true v := rfl
    have f2 : lB true ([32] ++ v) = lB true v := rfl
    have f3 : lB true ([32] ++ v ++ [32, 9]) = true := by rw [lB_app]; rfl
    have f4 : lB true ([32] ++ v ++ [32, 9] ++ v) = lB true v := by rw [lB_app, f3]
    have f5 : ∀ q, hB q [32, 9] = hB q [32, 32] := fun q => by cases q <;> rfl
    rw [hB_app, f4, hB_app, f3, hB_app, f2, f1, f5]
  rw [e1, e2]
  exact (rtrim_blank (hB_blank [9] _ (fun c hc => by simp at hc; subst hc; exact b9))).symm
end Go.Proofs.YtnohmijdpmelpaaGreat
set_option maxRecDepth 100000
set_option linter.unusedVariables false
set_option linter.unusedSimpArgs false
namespace Go.Proofs.YtnohmijdpmelpaaGreat
open Go Go.Am
/-- small letters alone -/
def Low (s : List UInt8) : Prop := ∀ c ∈ s, 97 ≤ c.toNat ∧ c.toNat ≤ 122
theorem low_app {s t : List UInt8} : Low (s ++ t) ↔ Low s ∧ Low t := by
  unfold Low
  constructor
  · exact fun h => ⟨fun c hc => h c (List.mem_append_left _ hc), fun c hc => h c (List.mem_append_right _ hc)⟩
  · rintro ⟨h1, h2⟩ c hc
    rcases List.mem_append.1 hc with h | h
    · exact h1 c h
    · exact h2 c h
theorem low_ne {s : List UInt8} (h : Low s) {c : UInt8} (hc : c.toNat < 97) : c ∉ s := fun hm => by have := h c hm; omega
theorem low_unesc : ∀ {s : List UInt8}, Low s → unescL s = some s
  | [], _ => by unfold unescL; rfl
  | c :: r, h => by
    have hc := h c List.mem_cons_self
    have ih := low_unesc (s := r) fun x hx => h x (List.mem_cons_of_mem _ hx)
    rw [une_ne (fun e => by subst e; simp at hc), ih]; rfl
theorem low_esc (sl : Bool) : ∀ {s : List UInt8}, Low s → escL s sl = s
  | [], _ => rfl
  | c :: r, h => by
    have hc := h c List.mem_cons_self
    have ih := low_esc sl (s := r) fun x hx => h x (List.mem_cons_of_mem _ hx)
    have hs : safe sl c = true := by
      unfold safe alnum
      rw [decide_eq_true (by omega)]; rfl
    show escB sl c ++ escL r sl = c :: r
    rw [esc_safe hs, ih]; rfl
theorem idx_at {p r : List UInt8} {c : UInt8} (h : c ∉ p) : Lib.indexByte (p ++ c :: r) c = p.length :=
  idx_hit (i := p.length) ⟨by simp, by rw [List.take_left]; exact h⟩ (by simp) (by rw [List.getD_eq_getElem?_getD, List.getElem?_append_right (Nat.le_refl _), Nat.sub_self]; rfl)
theorem cut_at {p r : List UInt8} {c : UInt8} (h : c ∉ p) : cutF (p ++ c :: r) c = (p, r, true) := by
  have := (cut_some (s := p ++ c :: r) (c := c) (i := p.length) (idx_at h)).1
  rw [this, List.take_left]
  have e : (p ++ c :: r).drop (p.length + 1) = r := by
    rw [show p ++ c :: r = (p ++ [c]) ++ r by simp, show p.length + 1 = (p ++ [c]).length by simp, List.drop_left]
  rw [e]
theorem spI_none {s : List UInt8} {c : UInt8} : ∀ i, i ≤ s.length → c ∉ s.take i → spI s c i = ([], 0)
  | 0, _, _ => rfl
  | i + 1, hi, h => by
    rw [take_snoc 0 (show i < s.length from hi)] at h
    have h1 : c ∉ s.take i := fun hm => h (List.mem_append_left _ hm)
    have h2 : c ≠ s.getD i 0 := fun e => h (List.mem_append_right _ (by rw [e]; simp))
    have ih := spI_none i (by omega) h1
    unfold spI
    rw [if_neg (fun e => h2 (UInt8.toNat_inj.1 e).symm), ih]
theorem split_one {p : List UInt8} {c : UInt8} (h : c ∉ p) : splitL p c = [p] := by
  unfold splitL
  rw [spI_none p.length (Nat.le_refl _) (by rw [List.take_length]; exact h)]; rfl
theorem spI_at {p r : List UInt8} {c : UInt8} (h : c ∉ p) : ∀ j, j ≤ r.length → spI (p ++ c :: r) c (p.length + 1 + j) = (p :: (spI r c j).1, p.length + 1 + (spI r c j).2)
  | 0, _ => by
    have h0 := spI_none (s := p ++ c :: r) (c := c) p.length (by simp) (by rw [List.take_left]; exact h)
    have e : (p ++ c :: r).getD p.length 0 = c := by rw [List.getD_eq_getElem?_getD, List.getElem?_append_right (Nat.le_refl _), Nat.sub_self]; rfl
    show spI (p ++ c :: r) c (p.length + 1) = _
    conv => lhs; unfold spI
    rw [e, if_pos rfl, h0]
    simp [spI]
  | j + 1, hj => by
    have ih := spI_at h (r := r) j (by omega)
    have e : (p ++ c :: r).getD (p.length + 1 + j) 0 = r.getD j 0 := by
      rw [List.getD_eq_getElem?_getD, List.getElem?_append_right (by omega), show p.length + 1 + j - p.length = j + 1 by omega, List.getElem?_cons_succ, ← List.getD_eq_getElem?_getD]
    show spI (p ++ c :: r) c (p.length + 1 + j + 1) = _
    conv => lhs; unfold spI
    rw [e, ih]
    conv => rhs; unfold spI
    split
    · simp only [Prod.mk.injEq]
      have hle := (spI_le r c j).2
      refine ⟨?_, by omega⟩
      have e2 : (p ++ c :: r).take (p.length + 1 + j) = (p ++ [c]) ++ r.take j := by
        rw [show p ++ c :: r = (p ++ [c]) ++ r by simp, show p.length + 1 + j = (p ++ [c]).length + j by simp, List.take_length_add_append]
      rw [e2, show p.length + 1 + (spI r c j).2 = (p ++ [c]).length + (spI r c j).2 by simp, List.drop_length_add_append]
      simp
    · rfl
theorem split_at {p r : List UInt8} {c : UInt8} (h : c ∉ p) : splitL (p ++ c :: r) c = p :: splitL r c := by
  unfold splitL
  have e : (p ++ c :: r).length = p.length + 1 + r.length := by simp; omega
  rw [e, spI_at h r.length (Nat.le_refl _)]
  simp only [List.cons_append]
  rw [show p ++ c :: r = (p ++ [c]) ++ r by simp, show p.length + 1 + (spI r c r.length).2 = (p ++ [c]).length + (spI r c r.length).2 by simp, List.drop_length_add_append]
theorem joinL_len (sep : List UInt8) (l : List (List UInt8)) : ∀ i, 0 < i → i ≤ l.length → (joinN l sep i).length + sep.length = ((l.take i).map fun x => x.length + sep.length).sum
  | 0, h, _ => by omega
  | i + 1, _, h => by
    have hi : i < l.length := h
    rw [joinN_succ, List.length_append, take_snoc [] hi, List.map_append, List.sum_append]
    simp only [List.map_cons, List.map_nil, List.sum_cons, List.sum_nil]
    by_cases h0 : 0 < i
    · have ih := joinL_len sep l i h0 (by omega)
      rw [if_pos h0, List.length_append]; omega
    · have : i = 0 := by omega
      subst this
      simp [joinN]
theorem sort_two (p q : Hd) : sortP [p, q] = sortP [q, p] := by
  refine sorts ((sortP_perm [p, q]).trans (List.Perm.swap q p [])) (sortP_up _)
/-- a query's text of two pairs -/
def two (p q : Hd) : List UInt8 := joinL ((sortP [p, q]).map fmtP) [38]
theorem two_len (p q : Hd) : (two p q).length = p.1.length + p.2.length + q.1.length + q.2.length + 3 := by
  have h := joinL_len [38] ((sortP [p, q]).map fmtP) ((sortP [p, q]).map fmtP).length (by rw [List.length_map, sortP_len]; simp) (Nat.le_refl _)
  rw [List.take_length, List.map_map] at h
  have hp := ((sortP_perm [p, q]).map fun x : Hd => (fmtP x).length + ([38] : List UInt8).length).sum_nat
  have e : ((sortP [p, q]).map ((fun x : List UInt8 => x.length + ([38] : List UInt8).length) ∘ fmtP)).sum = ((sortP [p, q]).map fun x : Hd => (fmtP x).length + ([38] : List UInt8).length).sum := rfl
  rw [e, hp] at h
  have h2 : (two p q).length = (joinN ((sortP [p, q]).map fmtP) [38] ((sortP [p, q]).map fmtP).length).length := rfl
  rw [h2]
  simp only [List.map_cons, List.map_nil, List.sum_cons, List.sum_nil, fmtP, List.length_append, List.length_cons, List.length_nil] at h
  omega
theorem pairs_low {p q : Hd} (h1 : Low p.1) (h2 : Low p.2) (h3 : Low q.1) (h4 : Low q.2) : cPairs false [p, q] = some [p, q] := by
  have e1 := cP_two (pre := false) (x := p) (by simp) (low_unesc h1) (low_unesc h2)
  have e2 := cP_two (pre := false) (x := q) (by simp) (low_unesc h3) (low_unesc h4)
  rw [low_esc _ h1, low_esc _ h2] at e1
  rw [low_esc _ h3, low_esc _ h4] at e2
  rw [show [p, q] = [p] ++ [q] from rfl, cP_app, e1, e2]; rfl
section
variable {a b x y : List UInt8}
def T1 (a b x y : List UInt8) : List UInt8 := [47, 107] ++ 63 :: ((a ++ 61 :: b) ++ 38 :: (x ++ 61 :: y))
def T2 (a b x y : List UInt8) : List UInt8 := [47, 37, 54, 98] ++ 63 :: ([] ++ 38 :: ((x ++ 61 :: y) ++ 38 :: ([] ++ 38 :: (a ++ 61 :: b))))
theorem no38 (ha : Low a) (hb : Low b) : (38 : UInt8) ∉ a ++ 61 :: b := by
  intro h
  rcases List.mem_append.1 h with h | h
  · exact low_ne ha (by decide) h
  · rcases List.mem_cons.1 h with h | h
    · cases h
    · exact low_ne hb (by decide) h
theorem q_T1 (ha : Low a) (hb : Low b) (hx : Low x) (hy : Low y) : queryP (T1 a b x y) = [47, 107] ∧ queryQ (T1 a b x y) = [(a, b), (x, y)] := by
  have hc : cutF (T1 a b x y) 63 = ([47, 107], (a ++ 61 :: b) ++ 38 :: (x ++ 61 :: y), true) := cut_at (by decide)
  unfold queryP queryQ
  rw [hc]
  refine ⟨rfl, ?_⟩
  simp only []
  rw [split_at (no38 ha hb), split_one (no38 hx hy)]
  simp only [List.length_cons, List.length_nil]
  have c1 := cut_at (p := a) (r := b) (c := 61) (low_ne ha (by decide))
  have c2 := cut_at (p := x) (r := y) (c := 61) (low_ne hx (by decide))
  simp [qN, c1, c2]
theorem q_T2 (ha : Low a) (hb : Low b) (hx : Low x) (hy : Low y) : queryP (T2 a b x y) = [47, 37, 54, 98] ∧ queryQ (T2 a b x y) = [(x, y), (a, b)] := by
  have hc : cutF (T2 a b x y) 63 = ([47, 37, 54, 98], [] ++ 38 :: ((x ++ 61 :: y) ++ 38 :: ([] ++ 38 :: (a ++ 61 :: b))), true) := cut_at (by decide)
  unfold queryP queryQ
  rw [hc]
  refine ⟨rfl, ?_⟩
  simp only []
  rw [split_at (by simp), split_at (no38 hx hy), split_at (by simp), split_one (no38 ha hb)]
  simp only [List.length_cons, List.length_nil]
  have c1 := cut_at (p := a) (r := b) (c := 61) (low_ne ha (by decide))
  have c2 := cut_at (p := x) (r := y) (c := 61) (low_ne hx (by decide))
  simp [qN, c1, c2]
def K : List UInt8 := [47, 107]
def hostN : List UInt8 := [104, 111, 115, 116]
def hostV : List UInt8 := [115, 51, 46, 108, 111, 99, 97, 108]
def amzN : List UInt8 := [120, 45, 97, 109, 122, 45, 97]
def hA (v : List UInt8) : List Hd := [(hostN, hostV), (amzN, v ++ [32, 32] ++ v)]
def gA (v : List UInt8) : List Hd := [(amzN, [32] ++ v ++ [32, 9] ++ v ++ [9]), (hostN, hostV)]
abbrev SG : List (List UInt8) := [hostN, amzN]
theorem path1 : unescL ([47, 107] : List UInt8) = some K := by decide +kernel
theorem path2 : unescL ([47, 37, 54, 98] : List UInt8) = some K := by decide +kernel
theorem lines_same (v : List UInt8) : SG.flatMap (lineL (hA v)) = SG.flatMap (lineL (gA v)) := by
  have e1 : allL (hA v) hostN = [hostV] := by simp [allL, aN, hA, hostN, amzN]
  have e2 : allL (gA v) hostN = [hostV] := by simp [allL, aN, gA, hostN, amzN]
  have e3 : allL (hA v) amzN = [v ++ [32, 32] ++ v] := by simp [allL, aN, hA, hostN, amzN]
  have e4 : allL (gA v) amzN = [[32] ++ v ++ [32, 9] ++ v ++ [9]] := by simp [allL, aN, gA, hostN, amzN]
  simp only [List.flatMap_cons, List.flatMap_nil, lineL, valsL, e1, e2, e3, e4, List.map_cons, List.map_nil, fold_same]
def txt (q v : List UInt8) : List UInt8 := textC [71, 69, 84] (escL K true) q (hA v) SG [112]
theorem canon1 (v : List UInt8) (ha : Low a) (hb : Low b) (hx : Low x) (hy : Low y) : canonL [71, 69, 84] (T1 a b x y) (hA v) SG [112] false = some (txt (two (a, b) (x, y)) v) := by
  obtain ⟨h1, h2⟩ := q_T1 ha hb hx hy
  unfold canonL
  rw [h1, path1]
  have : queryC (T1 a b x y) false = some (two (a, b) (x, y)) := by unfold queryC; rw [h2, pairs_low ha hb hx hy]; rfl
  rw [this]; rfl
theorem canon2 (v : List UInt8) (ha : Low a) (hb : Low b) (hx : Low x) (hy : Low y) : canonL [71, 69, 84] (T2 a b x y) (gA v) SG [112] false = some (txt (two (a, b) (x, y)) v) := by
  obtain ⟨h1, h2⟩ := q_T2 ha hb hx hy
  unfold canonL
  rw [h1, path2]
  have : queryC (T2 a b x y) false = some (two (a, b) (x, y)) := by
    unfold queryC; rw [h2, pairs_low hx hy ha hb]
    unfold two; rw [sort_two]; rfl
  rw [this]
  unfold txt textC
  rw [lines_same]
theorem txt_len (q v : List UInt8) : (txt q v).length = q.length + (txt [] v).length := by
  unfold txt textC headC
  simp only [List.length_append, List.length_cons, List.length_nil]; omega
theorem txt_ne (v : List UInt8) : txt (two (a, b) (x, y)) v ≠ txt (two (a, b) (x, y ++ [122])) v := fun e => by
  have := congrArg List.length e
  rw [txt_len (two (a, b) (x, y)) v, txt_len (two (a, b) (x, y ++ [122])) v, two_len, two_len] at this
  simp only [List.length_append, List.length_cons, List.length_nil] at this
  omega
end
end Go.Proofs.YtnohmijdpmelpaaGreat
