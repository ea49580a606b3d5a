/- the plain law of groups and rising names. -/
import Derived.Test.YtfkpdfpnpcdhaaaL11
namespace Go.Proofs.LP
open Go
set_option linter.unusedVariables false
set_option linter.unusedSimpArgs false
set_option linter.unusedSectionVars false
abbrev Le (a b : List UInt8) : Prop := sleL a b = true
theorem sleL_nil (b : List UInt8) : sleL [] b = true := by cases b <;> rfl
theorem sleL_cn (x : UInt8) (a : List UInt8) : sleL (x :: a) [] = false := rfl
theorem sleL_cc (x y : UInt8) (a b : List UInt8) : sleL (x :: a) (y :: b) = (decide (x < y) || (x == y && sleL a b)) := by
  unfold sleL
  rw [Op.bytesLess]
  by_cases h : x < y
  · simp [h]
  · by_cases e : x = y
    · subst e; simp
    · have : (x == y) = false := by simpa using e
      simp [h, this, e]
theorem sleL_iff (x y : UInt8) (a b : List UInt8) : Le (x :: a) (y :: b) ↔ x.toNat < y.toNat ∨ (x.toNat = y.toNat ∧ Le a b) := by
  unfold Le
  rw [sleL_cc]
  simp only [Bool.or_eq_true, decide_eq_true_eq, Bool.and_eq_true, beq_iff_eq, UInt8.lt_iff_toNat_lt, ← UInt8.toNat_inj]
theorem le_rfl' : ∀ a : List UInt8, Le a a
  | [] => sleL_nil _
  | x :: a => (sleL_iff x x a a).2 (.inr ⟨rfl, le_rfl' a⟩)
theorem le_tr : ∀ {a b c : List UInt8}, Le a b → Le b c → Le a c
  | [], _, _, _, _ => sleL_nil _
  | _ :: _, [], _, h, _ => by rw [Le, sleL_cn] at h; cases h
  | _ :: _, _ :: _, [], _, h => by rw [Le, sleL_cn] at h; cases h
  | x :: a, y :: b, z :: c, h1, h2 => by
    rw [sleL_iff] at *
    rcases h1 with h1 | ⟨h1, h1'⟩ <;> rcases h2 with h2 | ⟨h2, h2'⟩
    · exact .inl (by omega)
    · exact .inl (by omega)
    · exact .inl (by omega)
    · exact .inr ⟨by omega, le_tr h1' h2'⟩
theorem le_as : ∀ {a b : List UInt8}, Le a b → Le b a → a = b
  | [], [], _, _ => rfl
  | _ :: _, [], h, _ => by rw [Le, sleL_cn] at h; cases h
  | [], _ :: _, _, h => by rw [Le, sleL_cn] at h; cases h
  | x :: a, y :: b, h1, h2 => by
    rw [sleL_iff] at h1 h2
    rcases h1 with h1 | ⟨h1, h1'⟩ <;> rcases h2 with h2 | ⟨h2, h2'⟩
    · omega
    · omega
    · omega
    · rw [UInt8.toNat_inj.1 h1, le_as h1' h2']
theorem le_tot : ∀ (a b : List UInt8), Le a b ∨ Le b a
  | [], _ => .inl (sleL_nil _)
  | _ :: _, [] => .inr (sleL_nil _)
  | x :: a, y :: b => by
    rw [sleL_iff, sleL_iff]
    rcases Nat.lt_trichotomy x.toNat y.toNat with h | h | h
    · exact .inl (.inl h)
    · rcases le_tot a b with k | k
      · exact .inl (.inr ⟨h, k⟩)
      · exact .inr (.inr ⟨h.symm, k⟩)
    · exact .inr (.inl h)
theorem le_pre : ∀ {g n : List UInt8}, g <+: n → Le g n
  | [], _, _ => sleL_nil _
  | x :: g, n, ⟨t, h⟩ => by
    subst h
    rw [List.cons_append, sleL_iff]
    exact .inr ⟨rfl, le_pre (List.prefix_append g t)⟩
theorem between : ∀ {g a b c : List UInt8}, g <+: a → g <+: c → Le a b → Le b c → g <+: b
  | [], _, b, _, _, _, _, _ => List.nil_prefix
  | x :: g, a, b, c, ⟨s, hs⟩, ⟨t, ht⟩, h1, h2 => by
    subst hs; subst ht
    cases b with
    | nil => rw [List.cons_append, Le, sleL_cn] at h1; cases h1
    | cons y b =>
      rw [List.cons_append, sleL_iff] at h1 h2
      have hxy : x.toNat = y.toNat := by rcases h1 with h1 | ⟨h1, _⟩ <;> rcases h2 with h2 | ⟨h2, _⟩ <;> omega
      have h1' : Le (g ++ s) b := by rcases h1 with h1 | ⟨_, h1⟩; omega; exact h1
      have h2' : Le b (g ++ t) := by rcases h2 with h2 | ⟨_, h2⟩; omega; exact h2
      rw [UInt8.toNat_inj.1 hxy]
      obtain ⟨r, hr⟩ := between (List.prefix_append g s) (List.prefix_append g t) h1' h2'
      exact ⟨r, by rw [← hr]; rfl⟩
theorem index_occ : ∀ (s d : List UInt8), 0 ≤ Lib.index s d → Lib.occAt s d (Lib.index s d).toNat = true ∧ (∀ j, j < (Lib.index s d).toNat → Lib.occAt s d j = false)
  | [], d, h => by
    unfold Lib.index at h ⊢
    cases d with
    | nil => exact ⟨rfl, fun j hj => by simp at hj⟩
    | cons _ _ => simp at h
  | b :: s, d, h => by
    unfold Lib.index at h ⊢
    by_cases hp : d.isPrefixOf (b :: s) = true
    · rw [if_pos hp]
      exact ⟨by simpa [Lib.occAt] using hp, fun j hj => by simp at hj⟩
    · rw [if_neg hp] at h ⊢
      by_cases hn : (Lib.index s d == -1) = true
      · rw [if_pos hn] at h; simp at h
      · rw [if_neg hn] at h ⊢
        have hge := Lib.index_ge s d
        have hne : Lib.index s d ≠ -1 := by simpa using hn
        obtain ⟨i1, i2⟩ := index_occ s d (by omega)
        rw [show (Lib.index s d + 1).toNat = (Lib.index s d).toNat + 1 by omega]
        refine ⟨by simpa [Lib.occAt] using i1, fun j hj => ?_⟩
        cases j with
        | zero => exact Bool.eq_false_iff.2 hp
        | succ j => simpa [Lib.occAt] using i2 j (by omega)
/-- a group's name begins the name, and whatever it begins is in that group -/
theorem group_pre {n p d : List UInt8} (h : (groupF n p d).2 = true) : (groupF n p d).1 <+: n ∧ ∀ n', (groupF n p d).1 <+: n' → groupF n' p d = ((groupF n p d).1, true) := by
  unfold groupF at h ⊢
  by_cases hc : Lib.hasPrefix n p = true ∧ d ≠ [] ∧ 0 ≤ Lib.index (n.drop p.length) d
  · rw [if_pos hc] at h ⊢
    obtain ⟨h1, h2, h3⟩ := hc
    obtain ⟨o1, o2⟩ := index_occ _ _ h3
    generalize hi : (Lib.index (n.drop p.length) d).toNat = i at *
    refine ⟨List.take_prefix _ _, fun n' hn' => ?_⟩
    have hpn : p <+: n := List.isPrefixOf_iff_prefix.1 h1
    have hroom : p.length + i + d.length ≤ n.length := by
      have := (List.isPrefixOf_iff_prefix.1 o1).length_le
      simp only [List.length_drop] at this
      have := hpn.length_le
      have hd : 1 ≤ d.length := by cases d with | nil => exact absurd rfl h2 | cons _ _ => simp
      omega
    obtain ⟨t, ht⟩ := hn'
    replace ht : n.take (p.length + i + d.length) ++ t = n' := ht
    have hlen : (n.take (p.length + i + d.length)).length = p.length + i + d.length := by rw [List.length_take]; omega
    have hpp : p <+: n' := by
      rw [← ht]
      refine List.IsPrefix.trans ?_ (List.prefix_append _ _)
      rw [List.prefix_take_iff]; exact ⟨hpn, by omega⟩
    -- the same bytes, as far as they matter
    have hsame : ∀ j, j ≤ i → Lib.occAt (n'.drop p.length) d j = Lib.occAt (n.drop p.length) d j := fun j hj => by
      unfold Lib.occAt
      have e : ∀ m : List UInt8, n.take (p.length + i + d.length) <+: m → (d.isPrefixOf ((m.drop p.length).drop j)) = d.isPrefixOf (((n.take (p.length + i + d.length)).drop p.length).drop j) := fun m ⟨r, hr⟩ => by
        rw [Bool.eq_iff_iff, List.isPrefixOf_iff_prefix, List.isPrefixOf_iff_prefix, ← hr, List.drop_append_of_le_length (by omega), List.drop_append_of_le_length (by simp only [List.length_drop]; omega)]
        constructor
        · intro h
          exact List.prefix_of_prefix_length_le h (List.prefix_append _ _) (by simp only [List.length_drop]; omega)
        · intro h; exact h.trans (List.prefix_append _ _)
      rw [e n' ⟨t, ht⟩, e n (List.take_prefix _ _)]
    have hix : Lib.index (n'.drop p.length) d = i := by
      refine Lib.index_first ?_ (by rw [hsame i (Nat.le_refl _)]; exact o1) fun j hj => by rw [hsame j (by omega)]; exact o2 j hj
      rw [← ht, List.length_drop, List.length_append]; omega
    rw [if_pos ⟨List.isPrefixOf_iff_prefix.2 hpp, h2, by rw [hix]; omega⟩, hix, Int.toNat_natCast]
    refine Prod.ext ?_ rfl
    show n'.take _ = n.take _
    rw [← ht, List.take_append_of_le_length (by omega), List.take_take, Nat.min_self]
  · rw [if_neg hc] at h; cases h
section
variable (p d : List UInt8)
/-- what a name is told as -/
def key (n : List UInt8) : List UInt8 := if (groupF n p d).2 then (groupF n p d).1 else n
theorem key_le {a b : List UInt8} (h : Le a b) : Le (key p d a) (key p d b) := by
  unfold key
  by_cases ha : (groupF a p d).2 = true <;> by_cases hb : (groupF b p d).2 = true
  · rw [if_pos ha, if_pos hb]
    rcases le_tot (groupF a p d).1 (groupF b p d).1 with h1 | h1
    · exact h1
    · obtain ⟨a1, a2⟩ := group_pre ha
      obtain ⟨b1, b2⟩ := group_pre hb
      have := between (List.prefix_refl _) b1 (le_tr h1 (le_pre a1)) h
      rw [b2 a this]
      exact le_rfl' _
  · rw [if_pos ha, if_neg hb]
    exact le_tr (le_pre (group_pre ha).1) h
  · rw [if_neg ha, if_pos hb]
    rcases le_tot a (groupF b p d).1 with h1 | h1
    · exact h1
    · obtain ⟨b1, b2⟩ := group_pre hb
      have := between (List.prefix_refl _) b1 h1 h
      exact absurd (by rw [b2 a this]) ha
  · rw [if_neg ha, if_neg hb]; exact h
/-- rising -/
def Sor (l : List (List UInt8)) : Prop := ∀ i j, i ≤ j → j < l.length → Le (l.getD i []) (l.getD j [])
/-- does the last one tell of this group? -/
def lastIs (ys : List Ti) (g : List UInt8) : Bool := match ys.getLast? with | some x => x.g && x.nm == g | none => false
variable (l : List (List UInt8)) (mar : List UInt8)
def stpR (k : Nat) (ys : List Ti) : List Ti :=
  if Lib.hasPrefix (l.getD k []) p then
    if (groupF (l.getD k []) p d).2 then
      if sleL (groupF (l.getD k []) p d).1 mar || lastIs ys (groupF (l.getD k []) p d).1 then ys else ys ++ [⟨(groupF (l.getD k []) p d).1, true, 0⟩]
    else if sleL (l.getD k []) mar then ys else ys ++ [⟨l.getD k [], false, k⟩]
  else ys
def uptoR : Nat → List Ti
  | 0 => []
  | k + 1 => stpR p d l mar k (uptoR k)
/-- the code's memory of the last group, against what is told -/
structure Mem (k : Nat) (s : List UInt8 × Bool × List Ti) : Prop where
  no : s.2.1 = false → ∀ x, x ∈ s.2.2 → x.g = false
  yes : s.2.1 = true → ∃ A B j, s.2.2 = A ++ ⟨s.1, true, 0⟩ :: B ∧ j < k ∧ groupF (l.getD j []) p d = (s.1, true) ∧ ∀ x, x ∈ B → x.g = false ∧ ∃ t, j < t ∧ t < k ∧ x.nm = l.getD t [] ∧ (groupF (l.getD t []) p d).2 = false
theorem mem_last {k : Nat} {s : List UInt8 × Bool × List Ti} (hs : Sor l) (hk : k < l.length) (h : Mem p d l k s) (hg : (groupF (l.getD k []) p d).2 = true) :
    (s.2.1 && (groupF (l.getD k []) p d).1 == s.1) = lastIs s.2.2 (groupF (l.getD k []) p d).1 := by
  cases hb : s.2.1 with
  | false =>
    have := h.no hb
    unfold lastIs
    cases hl : s.2.2.getLast? with
    | none => rfl
    | some x => simp [this x (List.mem_of_getLast? hl)]
  | true =>
    obtain ⟨A, B, j, e, hj, hgj, hB⟩ := h.yes hb
    rw [Bool.true_and]
    unfold lastIs
    rw [e]
    rcases List.eq_nil_or_concat B with hn | ⟨B', x, hn⟩
    · subst hn
      have : (A ++ [(⟨s.1, true, 0⟩ : Ti)]).getLast? = some ⟨s.1, true, 0⟩ := by rw [List.getLast?_append]; rfl
      rw [this]
      show _ = (true && s.1 == _)
      rw [Bool.true_and, Bool.eq_iff_iff, beq_iff_eq, beq_iff_eq]
      exact eq_comm
    · rw [List.concat_eq_append] at hn
      subst hn
      obtain ⟨x1, t, t1, t2, t3, t4⟩ := hB x (by simp)
      have : (A ++ ⟨s.1, true, 0⟩ :: (B' ++ [x])).getLast? = some x := by
        rw [show A ++ (⟨s.1, true, 0⟩ : Ti) :: (B' ++ [x]) = (A ++ ⟨s.1, true, 0⟩ :: B') ++ [x] by simp, List.getLast?_append]; rfl
      rw [this]
      simp only [x1, Bool.false_and]
      rw [Bool.eq_false_iff]
      intro he
      have he' : (groupF (l.getD k []) p d).1 = s.1 := by simpa using he
      obtain ⟨q1, q2⟩ := group_pre hg
      have hgj' : (groupF (l.getD j []) p d).2 = true := by rw [hgj]
      have r1 := (group_pre hgj').1
      rw [hgj] at r1
      rw [he'] at q1
      have hbt := between r1 q1 (hs j t (by omega) (by omega)) (hs t k (by omega) hk)
      have := q2 (l.getD t []) (by rw [he']; exact hbt)
      rw [this] at t4; cases t4
theorem upto_R {k : Nat} (hs : Sor l) (hk : k ≤ l.length) : (uptoL l p d mar k).2.2 = uptoR p d l mar k ∧ Mem p d l k (uptoL l p d mar k) := by
  induction k with
  | zero => exact ⟨rfl, fun _ x hx => by simp [uptoL] at hx, fun h => by simp [uptoL] at h⟩
  | succ k ih =>
    obtain ⟨i1, i2⟩ := ih (by omega)
    have later : ∀ s : List UInt8 × Bool × List Ti, Mem p d l k s → Mem p d l (k + 1) s := fun s h => ⟨h.no, fun hb => by
      obtain ⟨A, B, j, e, hj, hgj, hB⟩ := h.yes hb
      exact ⟨A, B, j, e, by omega, hgj, fun x hx => by obtain ⟨x1, t, t1, t2, t3⟩ := hB x hx; exact ⟨x1, t, t1, by omega, t3⟩⟩⟩
    simp only [uptoL, uptoR, ← i1]
    generalize uptoL l p d mar k = s at *
    unfold stpL stpR
    by_cases c1 : Lib.hasPrefix (l.getD k []) p = true
    · rw [if_pos c1, if_pos c1]
      by_cases c2 : (groupF (l.getD k []) p d).2 = true
      · rw [if_pos c2, if_pos c2]
        have hm := mem_last p d l hs (by omega) i2 c2
        by_cases c3 : sleL (groupF (l.getD k []) p d).1 mar = true
        · rw [c3, Bool.or_true, if_pos rfl, Bool.true_or, if_pos rfl]
          exact ⟨rfl, later _ i2⟩
        · have c3' : sleL (groupF (l.getD k []) p d).1 mar = false := Bool.eq_false_iff.2 c3
          rw [c3', Bool.or_false, Bool.false_or, hm]
          by_cases c4 : lastIs s.2.2 (groupF (l.getD k []) p d).1 = true
          · rw [if_pos c4, if_pos c4]; exact ⟨rfl, later _ i2⟩
          · rw [if_neg c4, if_neg c4]
            refine ⟨rfl, fun h => by simp at h, fun _ => ⟨s.2.2, [], k, rfl, by omega, ?_, fun x hx => by simp at hx⟩⟩
            exact Prod.ext rfl c2
      · rw [if_neg c2, if_neg c2]
        by_cases c3 : sleL (l.getD k []) mar = true
        · rw [if_pos c3, if_pos c3]; exact ⟨rfl, later _ i2⟩
        · rw [if_neg c3, if_neg c3]
          refine ⟨rfl, fun h x hx => ?_, fun h => ?_⟩
          · rcases List.mem_append.1 hx with hx | hx
            · exact i2.no h x hx
            · rw [List.mem_singleton] at hx; subst hx; rfl
          · obtain ⟨A, B, j, e, hj, hgj, hB⟩ := i2.yes h
            refine ⟨A, B ++ [⟨l.getD k [], false, k⟩], j, by rw [e]; simp, by omega, hgj, fun x hx => ?_⟩
            rcases List.mem_append.1 hx with hx | hx
            · obtain ⟨x1, t, t1, t2, t3⟩ := hB x hx; exact ⟨x1, t, t1, by omega, t3⟩
            · rw [List.mem_singleton] at hx; subst hx
              exact ⟨rfl, k, hj, by omega, rfl, Bool.eq_false_iff.2 c2⟩
    · rw [if_neg c1, if_neg c1]; exact ⟨rfl, later _ i2⟩
theorem full_R (hs : Sor l) : fullL l p d mar = uptoR p d l mar l.length := (upto_R p d l mar hs (Nat.le_refl _)).1
/-- what is told is told in order, under its key -/
structure Told (k : Nat) (ys : List Ti) : Prop where
  keys : ∀ x, x ∈ ys → ∃ t, t < k ∧ x.nm = key p d (l.getD t []) ∧ x.g = (groupF (l.getD t []) p d).2
  rise : ys.Pairwise fun x y => Le x.nm y.nm
theorem told_R (hs : Sor l) : ∀ {k : Nat}, k ≤ l.length → Told p d l k (uptoR p d l mar k)
  | 0, _ => ⟨fun x hx => by simp [uptoR] at hx, List.Pairwise.nil⟩
  | k + 1, hk => by
    have ih := told_R hs (k := k) (by omega)
    have later : ∀ ys, Told p d l k ys → Told p d l (k + 1) ys := fun ys h => ⟨fun x hx => by obtain ⟨t, t1, t2⟩ := h.keys x hx; exact ⟨t, by omega, t2⟩, h.rise⟩
    have snoc : ∀ ys x, Told p d l k ys → x.nm = key p d (l.getD k []) → x.g = (groupF (l.getD k []) p d).2 → Told p d l (k + 1) (ys ++ [x]) := fun ys x h e1 e2 => by
      refine ⟨fun y hy => ?_, ?_⟩
      · rcases List.mem_append.1 hy with hy | hy
        · exact (later _ h).keys y hy
        · rw [List.mem_singleton] at hy; subst hy; exact ⟨k, by omega, e1, e2⟩
      · rw [List.pairwise_append]
        refine ⟨h.rise, List.pairwise_singleton _ _, fun a ha b hb => ?_⟩
        rw [List.mem_singleton] at hb; subst hb
        obtain ⟨t, t1, t2, _⟩ := h.keys a ha
        rw [t2, e1]
        exact key_le p d (hs t k (by omega) (by omega))
    simp only [uptoR]
    unfold stpR
    split
    · split
      · rename_i c2
        split
        · exact later _ ih
        · exact snoc _ _ ih (by rw [key, if_pos c2]) c2.symm
      · rename_i c2
        split
        · exact later _ ih
        · exact snoc _ _ ih (by rw [key, if_neg c2]) (Bool.eq_false_iff.2 c2).symm
    · exact later _ ih
theorem lastIs_snoc (zs : List Ti) (y : Ti) (g : List UInt8) : lastIs (zs ++ [y]) g = (y.g && y.nm == g) := by
  have : (zs ++ [y]).getLast? = some y := by rw [List.getLast?_append]; rfl
  unfold lastIs; rw [this]
theorem lastIs_filter {ys : List Ti} {g m : List UInt8} (hr : ys.Pairwise fun x y => Le x.nm y.nm) (hg : ¬ Le g m) : lastIs ys g = lastIs (ys.filter fun x => !sleL x.nm m) g := by
  rcases List.eq_nil_or_concat ys with rfl | ⟨zs, y, rfl⟩
  · rfl
  · rw [List.concat_eq_append] at *
    rw [List.filter_append, lastIs_snoc]
    by_cases hy : Le y.nm m
    · have e : ([y].filter fun x => !sleL x.nm m) = [] := by simp [show sleL y.nm m = true from hy]
      rw [e, List.append_nil]
      have h1 : (y.g && y.nm == g) = false := by
        rw [Bool.eq_false_iff]
        intro h
        have : y.nm = g := by simpa using (Bool.and_eq_true_iff.1 h).2
        exact hg (this ▸ hy)
      rw [h1]
      symm
      rw [Bool.eq_false_iff]
      intro h
      unfold lastIs at h
      split at h
      · rename_i x hx
        have hm := List.mem_of_getLast? hx
        have hxz := (List.mem_filter.1 hm).1
        have : x.nm = g := by simpa using (Bool.and_eq_true_iff.1 h).2
        have hle := (List.pairwise_append.1 hr).2.2 x hxz y (by simp)
        exact hg (this ▸ le_tr hle hy)
      · cases h
    · have e : ([y].filter fun x => !sleL x.nm m) = [y] := by simp [Bool.eq_false_iff.2 hy]
      rw [e, lastIs_snoc]
theorem markers (m : List UInt8) (hs : Sor l) : ∀ {k : Nat}, k ≤ l.length → uptoR p d l m k = (uptoR p d l [] k).filter fun x => !sleL x.nm m
  | 0, _ => rfl
  | k + 1, hk => by
    have ih := markers m hs (k := k) (by omega)
    have ht := told_R p d l [] hs (k := k) (by omega)
    simp only [uptoR]
    generalize uptoR p d l [] k = ys at *
    rw [ih]
    have e0 : ∀ g, ¬ Le g m → sleL g [] = false := fun g h => Bool.eq_false_iff.2 fun h' => h (le_tr h' (sleL_nil m))
    have drop : ∀ x : Ti, Le x.nm m → (ys ++ [x]).filter (fun x => !sleL x.nm m) = ys.filter fun x => !sleL x.nm m := fun x h => by
      rw [List.filter_append]; simp [show sleL x.nm m = true from h]
    have keep : ∀ x : Ti, ¬ Le x.nm m → (ys ++ [x]).filter (fun x => !sleL x.nm m) = (ys.filter fun x => !sleL x.nm m) ++ [x] := fun x h => by
      rw [List.filter_append]; simp [Bool.eq_false_iff.2 h]
    unfold stpR
    by_cases c1 : Lib.hasPrefix (l.getD k []) p = true
    · rw [if_pos c1, if_pos c1]
      by_cases c2 : (groupF (l.getD k []) p d).2 = true
      · rw [if_pos c2, if_pos c2]
        generalize (groupF (l.getD k []) p d).1 = g
        by_cases c3 : Le g m
        · rw [show sleL g m = true from c3, Bool.true_or, if_pos rfl]
          split
          · rfl
          · exact (drop ⟨g, true, 0⟩ c3).symm
        · rw [Bool.eq_false_iff.2 c3, e0 g c3, Bool.false_or, Bool.false_or, ← lastIs_filter ht.rise c3]
          by_cases c4 : lastIs ys g = true
          · rw [if_pos c4, if_pos c4]
          · rw [if_neg c4, if_neg c4]; exact (keep ⟨g, true, 0⟩ c3).symm
      · rw [if_neg c2, if_neg c2]
        generalize l.getD k [] = g
        by_cases c3 : Le g m
        · rw [if_pos (show sleL g m = true from c3)]
          split
          · rfl
          · exact (drop ⟨g, false, k⟩ c3).symm
        · rw [if_neg c3, if_neg (by rw [e0 g c3]; exact Bool.false_ne_true)]
          exact (keep ⟨g, false, k⟩ c3).symm
    · rw [if_neg c1, if_neg c1]
theorem full_markers (m : List UInt8) (hs : Sor l) : fullL l p d m = (fullL l p d []).filter fun x => !sleL x.nm m := by
  rw [full_R p d l m hs, full_R p d l [] hs]; exact markers p d l m hs (Nat.le_refl _)
end
/-- texts that rise do rise -/
theorem sor_ins {l : List (List UInt8)} {x : List UInt8} (h : l.Pairwise Le) : (insL l x).Pairwise Le := by
  have hst : ∀ k, k ≤ l.length → (∀ j, stp34 l x k ≤ j → j < k → Le x (l.getD j [])) ∧ (∀ j, j < stp34 l x k → Le (l.getD j []) x) := fun k => by
    induction k with
    | zero => exact fun _ => ⟨fun j _ hj => absurd hj (Nat.not_lt_zero _), fun j hj => absurd hj (Nat.not_lt_zero _)⟩
    | succ k ih =>
      intro hk
      unfold stp34
      by_cases c : sleL (l.getD k []) x = true
      · rw [if_pos c]
        refine ⟨fun j h1 h2 => by omega, fun j hj => ?_⟩
        rcases Nat.lt_or_ge j k with h1 | h1
        · have := List.pairwise_iff_getElem.1 h j k (by omega) (by omega) h1
          refine le_tr ?_ c
          rw [List.getD_eq_getElem?_getD, List.getElem?_eq_getElem (show j < l.length by omega), List.getD_eq_getElem?_getD, List.getElem?_eq_getElem (show k < l.length by omega)]
          exact this
        · obtain rfl : j = k := by omega
          exact c
      · rw [if_neg c]
        obtain ⟨i1, i2⟩ := ih (by omega)
        refine ⟨fun j h1 h2 => ?_, i2⟩
        rcases Nat.lt_or_ge j k with h3 | h3
        · exact i1 j h1 h3
        · obtain rfl : j = k := by omega
          exact (le_tot _ _).resolve_left c
  obtain ⟨a, b⟩ := hst l.length (Nat.le_refl _)
  unfold insL
  generalize stp34 l x l.length = q at *
  rw [List.pairwise_append, List.pairwise_cons]
  refine ⟨h.take, ⟨fun y hy => ?_, h.drop⟩, fun y hy z hz => ?_⟩
  · obtain ⟨i, hi, rfl⟩ := List.mem_iff_getElem.1 hy
    rw [List.getElem_drop]
    have hi' : q + i < l.length := by simp only [List.length_drop] at hi; omega
    have := a (q + i) (by omega) hi'
    rwa [List.getD_eq_getElem?_getD, List.getElem?_eq_getElem hi'] at this
  · obtain ⟨i, hi, rfl⟩ := List.mem_iff_getElem.1 hy
    rw [List.getElem_take]
    simp only [List.length_take] at hi
    have hb := b i (by omega)
    rw [List.getD_eq_getElem?_getD, List.getElem?_eq_getElem (show i < l.length by omega)] at hb
    rcases List.mem_cons.1 hz with rfl | hz
    · exact hb
    · obtain ⟨j, hj, rfl⟩ := List.mem_iff_getElem.1 hz
      rw [List.getElem_drop]
      have hj' : q + j < l.length := by simp only [List.length_drop] at hj; omega
      have := a (q + j) (by omega) hj'
      rw [List.getD_eq_getElem?_getD, List.getElem?_eq_getElem hj'] at this
      exact le_tr hb this
theorem sor_foldl (l : List (List UInt8)) : ∀ a : List (List UInt8), a.Pairwise Le → (l.foldl insL a).Pairwise Le := by
  induction l with
  | nil => intro a h; exact h
  | cons x l ih => intro a h; exact ih _ (sor_ins h)
theorem sor_of {l : List (List UInt8)} (h : l.Pairwise Le) : Sor l := fun i j hij hj => by
  rw [List.getD_eq_getElem?_getD, List.getElem?_eq_getElem (show i < l.length by omega), List.getD_eq_getElem?_getD, List.getElem?_eq_getElem hj]
  rcases Nat.lt_or_ge i j with h1 | h1
  · exact List.pairwise_iff_getElem.1 h i j (by omega) hj h1
  · obtain rfl : i = j := by omega
    exact le_rfl' _
theorem ris_pw (l : List (List UInt8)) : (risL l).Pairwise Le := sor_foldl l [] List.Pairwise.nil
theorem ris_sor (l : List (List UInt8)) : Sor (risL l) := sor_of (ris_pw l)
theorem insL_mem {l : List (List UInt8)} {x y : List UInt8} (h : y ∈ insL l x) : y ∈ l ∨ y = x := by
  unfold insL at h
  rcases List.mem_append.1 h with h | h
  · exact .inl (List.mem_of_mem_take h)
  · rcases List.mem_cons.1 h with h | h
    · exact .inr h
    · exact .inl (List.mem_of_mem_drop h)
theorem foldl_mem (l : List (List UInt8)) : ∀ (a : List (List UInt8)) {y : List UInt8}, y ∈ l.foldl insL a → y ∈ a ∨ y ∈ l := by
  induction l with
  | nil => intro a y h; exact .inl h
  | cons x l ih =>
    intro a y h
    rcases ih _ h with h | h
    · rcases insL_mem h with h | h
      · exact .inl h
      · exact .inr (by simp [h])
    · exact .inr (List.mem_cons_of_mem _ h)
theorem ris_mem {l : List (List UInt8)} {y : List UInt8} (h : y ∈ risL l) : y ∈ l := by
  rcases foldl_mem l [] h with h | h
  · simp at h
  · exact h
end Go.Proofs.LP
