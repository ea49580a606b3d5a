/- the contracts turned to the walk of the kit: slices in new memory. -/
import Derived.Test.YtfkpdfpnpcdhaaaE1
import Derived.Test.YtfkpdfpnpcdhaaaAm31
import Derived.Sort.Grow
set_option maxRecDepth 100000
set_option linter.unusedVariables false
set_option linter.unusedSimpArgs false
set_option linter.unusedSectionVars false
namespace Go.Proofs.Ytfkpdfpnpcdhaaa
open Go Go.Am Go.RowKit
/-- cells in a row -/
def SlAt (w : World) (v : Value) (xs : List Value) : Prop := ∃ (base : Option (Nat × Nat)) (cap : Nat), v = .slice (base.map fun p => mkA p.1 p.2) xs.length cap ∧ xs.length ≤ cap ∧ (base = none → cap = 0) ∧
  ∀ b o, base = some (b, o) → ∀ (q : Nat) (u : Value), xs[q]? = some u → w.cell? (mkA b (o + q)) = some u
/-- and in new memory -/
def FrAt (N : Nat) (w : World) (v : Value) (xs : List Value) : Prop := ∃ (base : Option (Nat × Nat)) (cap : Nat), v = .slice (base.map fun p => mkA p.1 p.2) xs.length cap ∧ xs.length ≤ cap ∧ (base = none → cap = 0) ∧
  ∀ b o, base = some (b, o) → ∀ (q : Nat) (u : Value), xs[q]? = some u → w.cell? (mkA b (o + q)) = some u ∧ N ≤ b ∧ w.frozen? (mkA b (o + q)) = false
theorem FrAt.at_ {N w v xs} (h : FrAt N w v xs) : SlAt w v xs := by
  obtain ⟨base, cap, h1, h2, h3, h4⟩ := h
  exact ⟨base, cap, h1, h2, h3, fun b o e q u hu => (h4 b o e q u hu).1⟩
theorem SlAt.below {N w w' v xs} (h : SlAt w v xs) (hN : w.heap.size ≤ N) (hb : Below N w w') : SlAt w' v xs := by
  obtain ⟨base, cap, h1, h2, h3, h4⟩ := h
  refine ⟨base, cap, h1, h2, h3, fun b o e q u hu => ?_⟩
  have := h4 b o e q u hu
  exact (hb.cell (p := mkA b (o + q)) (Nat.lt_of_lt_of_le (World.block_lt_of_cell? _ _ this) hN)).trans this
def bV (l : List UInt8) : List Value := l.map fun c => .int .u8 c.toNat
def sV (l : List (List UInt8)) : List Value := l.map fun s => .string ⟨s.toArray⟩
open Classical in
/-- whose is what, when the call begins: S is lent, all else is nobody's to touch -/
noncomputable def Gx (w : World) (S : Nat → Nat → Prop) : Gh := fun b o => if b < w.heap.size then (if S b o then .frz else .ctx) else .free
theorem Gx_wi {w : World} {S : Nat → Nat → Prop} (hS : ∀ b o v, S b o → w.cell? (mkA b o) = some v → v.oneCell' = true) : WI (Gx w S) w := by
  refine ⟨fun b o h => ?_, fun b o h => ?_, fun b o v h hc => ?_, fun b cs e => by cases e⟩
  · unfold Gx at h; split at h
    · split at h <;> simp [Own.mine] at h
    · simp [Own.mine] at h
  · unfold Gx; rw [if_neg (by omega)]
  · unfold Gx at h
    split at h
    · split at h
      · rename_i hs; exact hS b o v hs hc
      · simp [Own.mine] at h
    · simp [Own.mine] at h
theorem Gx_S {w : World} {S : Nat → Nat → Prop} {b o : Nat} (hb : b < w.heap.size) (h : S b o) : Gx w S b o = .frz := by unfold Gx; rw [if_pos hb, if_pos h]
theorem FnOK.kit {f : FuncId} {args : List AV} {res : AV} (h : FnOK Try.prog f args [] res []) (w : World) (S : Nat → Nat → Prop) (hS : ∀ b o v, S b o → w.cell? (mkA b o) = some v → v.oneCell' = true) (vs : List Value) (hl : vs.length = args.length)
    (ha : ∀ (i : Nat) (c : AV) (v : Value), args[i]? = some c → vs[i]? = some v → VR (Gx w S) w [] c v ∧ nr c = true) :
    Calls Try.prog f vs.toArray w fun e w' => ∃ v G', e = .returned v ∧ VR G' w' [] res v ∧ Below w.heap.size w w' ∧ (∀ b o, G' b o = .frz → b < w.heap.size → S b o) ∧ (∀ b o, G' b o = .frz → w.heap.size ≤ b → w'.frozen? (mkA b o) = false) := by
  refine (h w (Gx w S) [] vs hl (fun i c v h1 h2 => ⟨(ha i c v h1 h2).1, SpV_nr (ha i c v h1 h2).2⟩) ⟨rfl, fun id b blk j c h1 => by simp at h1⟩ (Gx_wi hS)).mono ?_
  rintro e w' ⟨v, G', ρ', rfl, ht, hwi, hρ, hbr, hv, _⟩
  have : ρ' = [] := List.eq_nil_of_length_eq_zero (by rw [← hbr.len]; rfl)
  subst this
  refine ⟨v, G', rfl, hv, ⟨ht.os, ht.tape, ht.output, ht.size, fun k hk => ht.blk k hk fun o => ?_⟩, fun b o e hb => ?_, fun b o e hb => ?_⟩
  · unfold Gx; rw [if_pos hk]; split
    · exact .inl rfl
    · exact .inr rfl
  · apply Classical.byContradiction
    intro hs
    have : Gx w S b o = .ctx := by unfold Gx; rw [if_pos hb, if_neg hs]
    rw [ht.ctx b o this] at e; cases e
  · refine ht.fz b o ?_ e
    unfold Gx; rw [if_neg (by omega)]; simp
theorem bs_arg {w : World} {S : Nat → Nat → Prop} {v : Value} {l : List UInt8} (h : SlAt w v (bV l)) (hS : ∀ base cap, v = .slice (base.map fun p => mkA p.1 p.2) l.length cap → ∀ b o, base = some (b, o) → ∀ q, q < l.length → S b (o + q)) : VR (Gx w S) w [] (.bs l false) v := by
  obtain ⟨base, cap, h1, h2, h3, h4⟩ := h
  have hl : (bV l).length = l.length := by simp [bV]
  rw [hl] at h1 h2
  subst h1
  refine .bs _ _ _ _ (.sl _ _ _ _ _ base cap (fun q => (bV l).getD q undef) h2 h3 (fun i hi => rfl) (fun b o e q hq => ?_) (fun i j c hi hj => ?_))
  · have hq' : q < (bV l).length := by omega
    have := h4 b o e q _ (List.getElem?_eq_getElem hq')
    refine ⟨Gx_S (World.block_lt_of_cell? _ _ this) (hS base cap rfl b o e q (by omega)), ?_⟩
    rw [this, List.getD_eq_getElem?_getD, List.getElem?_eq_getElem hq']; rfl
  · have hj' : j = 0 := by have := (List.getElem?_eq_some_iff.1 hj).1; simp [byteEl, AV.cells] at this; omega
    subst hj'
    simp [byteEl, AV.cells] at hj
    subst hj
    have : (bV l).getD (i * 1 + 0) undef = .int .u8 ((l[i]?.getD 0).toNat) := by simp [bV, List.getD_eq_getElem?_getD, List.getElem?_eq_getElem hi]
    rw [this]
    exact .int _ _ _
theorem sl_arg {w : World} {S : Nat → Nat → Prop} {v : Value} {l : List (List UInt8)} (h : SlAt w v (sV l)) (hS : ∀ base cap, v = .slice (base.map fun p => mkA p.1 p.2) l.length cap → ∀ b o, base = some (b, o) → ∀ q, q < l.length → S b (o + q)) : VR (Gx w S) w [] (.sl 1 l.length (strEl l) false) v := by
  obtain ⟨base, cap, h1, h2, h3, h4⟩ := h
  have hl : (sV l).length = l.length := by simp [sV]
  rw [hl] at h1 h2
  subst h1
  refine .sl _ _ _ _ _ base cap (fun q => (sV l).getD q undef) h2 h3 (fun i hi => rfl) (fun b o e q hq => ?_) (fun i j c hi hj => ?_)
  · have hq' : q < (sV l).length := by omega
    have := h4 b o e q _ (List.getElem?_eq_getElem hq')
    refine ⟨Gx_S (World.block_lt_of_cell? _ _ this) (hS base cap rfl b o e q (by omega)), ?_⟩
    rw [this, List.getD_eq_getElem?_getD, List.getElem?_eq_getElem hq']; rfl
  · have hj' : j = 0 := by have := (List.getElem?_eq_some_iff.1 hj).1; simp [AV.cells] at this; omega
    subst hj'
    cases hj
    have : (sV l).getD (i * 1 + 0) undef = .string ⟨(l.getD i []).toArray⟩ := by simp [sV, List.getD_eq_getElem?_getD, List.getElem?_eq_getElem hi]
    rw [this]
    exact .str _ _
/-- what came back lies in new memory -/
theorem fr_of {G' : Gh} {w w' : World} {S : Nat → Nat → Prop} {n : Nat} {el : Nat → AV} {v : Value} (xs : List Value) (hx : xs.length = n) (hv : VR G' w' [] (.sl 1 n el false) v) (he : ∀ i, i < n → (el i).cells = [el i])
    (hval : ∀ i u, i < n → VR G' w' [] (el i) u → xs[i]? = some u) (hB : Below w.heap.size w w') (h3 : ∀ b o, G' b o = .frz → b < w.heap.size → S b o) (h4 : ∀ b o, G' b o = .frz → w.heap.size ≤ b → w'.frozen? (mkA b o) = false)
    (hd : ∀ b o u, S b o → w.cell? (mkA b o) = some u → u ∉ xs) : FrAt w.heap.size w' v xs := by
  obtain ⟨base, cap, vs, rfl, e1, e2, e3, e4, e5⟩ := hv.sl_inv
  subst hx
  refine ⟨base, cap, rfl, e1, e2, fun b o hb q u hu => ?_⟩
  have hq : q < xs.length := (List.getElem?_eq_some_iff.1 hu).1
  obtain ⟨g1, g2⟩ := e4 b o hb q (by omega)
  have hvr := e5 q 0 (el q) hq (by rw [he q hq]; rfl)
  rw [Nat.mul_one, Nat.add_zero] at hvr
  have hxu := hval q _ hq hvr
  rw [hu] at hxu
  have huu := Option.some.inj hxu
  rw [← huu] at g2
  have hlt : w.heap.size ≤ b := by
    rcases Nat.lt_or_ge b w.heap.size with h | h
    · have hs := h3 b _ g1 h
      have := (hB.cell (p := mkA b (o + q)) h).symm.trans g2
      exact absurd (List.mem_of_getElem? hu) (hd b _ u hs this)
    · exact h
  exact ⟨g2, hlt, h4 b _ g1 hlt⟩
/-- the cells of a slice -/
def cellsOf (v : Value) (n : Nat) : Nat → Nat → Prop := fun b o => ∃ base cap b' o' q, v = .slice (base.map fun p => mkA p.1 p.2) n cap ∧ base = some (b', o') ∧ q < n ∧ b = b' ∧ o = o' + q
theorem SlAt.cells {w : World} {v : Value} {xs : List Value} (h : SlAt w v xs) {b o : Nat} {u : Value} (hc : cellsOf v xs.length b o) (hu : w.cell? (mkA b o) = some u) : u ∈ xs := by
  obtain ⟨base, cap, h1, h2, h3, h4⟩ := h
  obtain ⟨base', cap', b', o', q, e1, e2, e3, rfl, rfl⟩ := hc
  subst e2
  rw [h1] at e1
  cases base with
  | none => simp at e1
  | some p =>
    obtain ⟨pb, po⟩ := p
    simp only [Option.map_some, Value.slice.injEq, Option.some.injEq, mkA, Addr.mk.injEq] at e1
    obtain ⟨⟨rfl, rfl, _⟩, _⟩ := e1
    have := h4 pb po rfl q _ (List.getElem?_eq_getElem e3)
    rw [hu] at this
    rw [Option.some.inj this]
    exact List.getElem_mem e3
theorem bV_one {l : List UInt8} : ∀ u, u ∈ bV l → u.oneCell' = true := fun u hu => by obtain ⟨x, _, rfl⟩ := List.mem_map.1 hu; rfl
theorem sV_one {l : List (List UInt8)} : ∀ u, u ∈ sV l → u.oneCell' = true := fun u hu => by obtain ⟨x, _, rfl⟩ := List.mem_map.1 hu; rfl
theorem bV_len (l : List UInt8) : (bV l).length = l.length := by simp [bV]
theorem sV_len (l : List (List UInt8)) : (sV l).length = l.length := by simp [sV]
theorem not_both {l : List UInt8} {m : List (List UInt8)} {u : Value} (h1 : u ∈ bV l) (h2 : u ∈ sV m) : False := by
  obtain ⟨x, _, rfl⟩ := List.mem_map.1 h1
  obtain ⟨y, _, h⟩ := List.mem_map.1 h2
  cases h
theorem bs_fr {G' : Gh} {w w' : World} {S : Nat → Nat → Prop} {l : List UInt8} {v : Value} (hv : VR G' w' [] (.bs l false) v) (hB : Below w.heap.size w w') (h3 : ∀ b o, G' b o = .frz → b < w.heap.size → S b o) (h4 : ∀ b o, G' b o = .frz → w.heap.size ≤ b → w'.frozen? (mkA b o) = false)
    (hd : ∀ b o u, S b o → w.cell? (mkA b o) = some u → u ∉ bV l) : FrAt w.heap.size w' v (bV l) := by
  refine fr_of (bV l) (bV_len l) hv.bs_inv (fun i hi => rfl) (fun i u hi hu => ?_) hB h3 h4 hd
  have := VR.int_inv (show VR G' w' [] (.int .u8 (l.getD i 0).toNat) u from hu)
  rw [this]
  simp [bV, List.getD_eq_getElem?_getD, List.getElem?_eq_getElem hi]
theorem sl_fr {G' : Gh} {w w' : World} {S : Nat → Nat → Prop} {l : List (List UInt8)} {v : Value} (hv : VR G' w' [] (.sl 1 l.length (strEl l) false) v) (hB : Below w.heap.size w w') (h3 : ∀ b o, G' b o = .frz → b < w.heap.size → S b o) (h4 : ∀ b o, G' b o = .frz → w.heap.size ≤ b → w'.frozen? (mkA b o) = false)
    (hd : ∀ b o u, S b o → w.cell? (mkA b o) = some u → u ∉ sV l) : FrAt w.heap.size w' v (sV l) := by
  refine fr_of (sV l) (sV_len l) hv (fun i hi => rfl) (fun i u hi hu => ?_) hB h3 h4 hd
  have := VR.str_inv (show VR G' w' [] (.str (l.getD i [])) u from hu)
  rw [this]
  simp [sV, List.getD_eq_getElem?_getD, List.getElem?_eq_getElem hi]
theorem pack_kit (l : List (List UInt8)) (hl : l.length ≤ 16777216) (hb : (packL l).length ≤ 8388608) (w : World) (v : Value) (hv : SlAt w v (sV l)) :
    Calls Try.prog 17 #[v] w fun e w' => ∃ u, e = .returned u ∧ FrAt w.heap.size w' u (bV (packL l)) ∧ Below w.heap.size w w' := by
  have hS : ∀ b o u, cellsOf v l.length b o → w.cell? (mkA b o) = some u → u ∈ sV l := fun b o u h hu => by rw [← sV_len l] at h; exact hv.cells h hu
  refine (FnOK.kit (pack_ok l false hl hb) w (cellsOf v l.length) (fun b o u h hu => sV_one u (hS b o u h hu)) [v] rfl (fun i c x h1 h2 => ?_)).mono ?_
  · match i, h1, h2 with
    | 0, h1, h2 =>
      simp at h1 h2; subst h1; subst h2
      exact ⟨sl_arg hv fun base cap e b o eb q hq => ⟨base, cap, b, o, q, e, eb, hq, rfl, rfl⟩, rfl⟩
    | i + 1, h1, _ => simp at h1
  · rintro e w' ⟨u, G', rfl, hr, hB, h3, h4⟩
    exact ⟨u, rfl, bs_fr hr hB h3 h4 fun b o x hs hx hm => not_both hm (hS b o x hs hx), hB⟩
theorem unpack_kit (b : List UInt8) (hb : b.length ≤ 16777216) (w : World) (v : Value) (hv : SlAt w v (bV b)) :
    Calls Try.prog 18 #[v] w fun e w' => ∃ u, e = .returned (.tuple #[u, .bool (unpackL b).isSome]) ∧ FrAt w.heap.size w' u (sV ((unpackL b).getD [])) ∧ Below w.heap.size w w' := by
  have hS : ∀ c o u, cellsOf v b.length c o → w.cell? (mkA c o) = some u → u ∈ bV b := fun c o u h hu => by rw [← bV_len b] at h; exact hv.cells h hu
  refine (FnOK.kit (unpack_ok b hb) w (cellsOf v b.length) (fun c o u h hu => bV_one u (hS c o u h hu)) [v] rfl (fun i c x h1 h2 => ?_)).mono ?_
  · match i, h1, h2 with
    | 0, h1, h2 =>
      simp at h1 h2; subst h1; subst h2
      exact ⟨bs_arg hv fun base cap e c o eb q hq => ⟨base, cap, c, o, q, e, eb, hq, rfl, rfl⟩, rfl⟩
    | i + 1, h1, _ => simp at h1
  · rintro e w' ⟨u, G', rfl, hr, hB, h3, h4⟩
    cases hr with
    | tup _ _ us hl huv =>
      match us, hl with
      | [u0, u1], _ =>
        have a0 := huv 0 _ u0 rfl rfl
        have a1 := huv 1 _ u1 rfl rfl
        cases a1
        exact ⟨u0, rfl, sl_fr a0 hB h3 h4 fun c o x hs hx hm => not_both (hS c o x hs hx) hm, hB⟩
theorem unhex_kit (s : List UInt8) (hs : s.length ≤ 16777216) (w : World) :
    Calls Try.prog 11 #[.string ⟨s.toArray⟩] w fun e w' => ∃ u, e = .returned (.tuple #[u, .bool (unhexL s).isSome]) ∧ FrAt w.heap.size w' u (bV ((unhexL s).getD [])) ∧ Below w.heap.size w w' := by
  refine (FnOK.kit (unhex_ok s hs) w (fun _ _ => False) (fun b o u h => h.elim) [.string ⟨s.toArray⟩] rfl (fun i c x h1 h2 => ?_)).mono ?_
  · match i, h1, h2 with
    | 0, h1, h2 => simp at h1 h2; subst h1; subst h2; exact ⟨.str _ _, rfl⟩
    | i + 1, h1, _ => simp at h1
  · rintro e w' ⟨u, G', rfl, hr, hB, h3, h4⟩
    cases hr with
    | tup _ _ us hl huv =>
      match us, hl with
      | [u0, u1], _ =>
        have a0 := huv 0 _ u0 rfl rfl
        have a1 := huv 1 _ u1 rfl rfl
        cases a1
        exact ⟨u0, rfl, bs_fr a0 hB h3 h4 fun c o x hs => hs.elim, hB⟩
theorem rpack_kit (l : List (List UInt8)) (hl : l.length ≤ 16777216) (hb : (packL l).length ≤ 8388608) (w : World) (v : Value) (hv : SlAt w v (sV l)) :
    Calls Try.prog 20 #[v] w fun e w' => ∃ u, e = .returned u ∧ FrAt w.heap.size w' u (bV (packL l)) ∧ Below w.heap.size w w' := by
  have hS : ∀ b o u, cellsOf v l.length b o → w.cell? (mkA b o) = some u → u ∈ sV l := fun b o u h hu => by rw [← sV_len l] at h; exact hv.cells h hu
  refine (FnOK.kit (rpack_ok l hl hb) w (cellsOf v l.length) (fun b o u h hu => sV_one u (hS b o u h hu)) [v] rfl (fun i c x h1 h2 => ?_)).mono ?_
  · match i, h1, h2 with
    | 0, h1, h2 =>
      simp at h1 h2; subst h1; subst h2
      exact ⟨sl_arg hv fun base cap e b o eb q hq => ⟨base, cap, b, o, q, e, eb, hq, rfl, rfl⟩, rfl⟩
    | i + 1, h1, _ => simp at h1
  · rintro e w' ⟨u, G', rfl, hr, hB, h3, h4⟩
    exact ⟨u, rfl, bs_fr hr hB h3 h4 fun b o x hs hx hm => not_both hm (hS b o x hs hx), hB⟩
theorem hex_kit (b : List UInt8) (hb : b.length ≤ 16777216) (w : World) (v : Value) (hv : SlAt w v (bV b)) :
    Calls Try.prog 13 #[v] w fun e w' => e = .returned (.string ⟨(hexL b).toArray⟩) ∧ Below w.heap.size w w' := by
  have hS : ∀ c o u, cellsOf v b.length c o → w.cell? (mkA c o) = some u → u ∈ bV b := fun c o u h hu => by rw [← bV_len b] at h; exact hv.cells h hu
  refine (FnOK.kit (hex_ok b false hb) w (cellsOf v b.length) (fun c o u h hu => bV_one u (hS c o u h hu)) [v] rfl (fun i c x h1 h2 => ?_)).mono ?_
  · match i, h1, h2 with
    | 0, h1, h2 =>
      simp at h1 h2; subst h1; subst h2
      exact ⟨bs_arg hv fun base cap e c o eb q hq => ⟨base, cap, c, o, q, e, eb, hq, rfl, rfl⟩, rfl⟩
    | i + 1, h1, _ => simp at h1
  · rintro e w' ⟨u, G', rfl, hr, hB, h3, h4⟩
    cases hr
    exact ⟨rfl, hB⟩
theorem sameTexts_kit (a b : List (List UInt8)) (ha : a.length ≤ 16777216) (hb : b.length ≤ 16777216) (w : World) (v u : Value) (hv : SlAt w v (sV a)) (hu : SlAt w u (sV b)) :
    Calls Try.prog 19 #[v, u] w fun e w' => e = .returned (.bool (a == b)) ∧ Below w.heap.size w w' := by
  have hS : ∀ c o x, (cellsOf v a.length c o ∨ cellsOf u b.length c o) → w.cell? (mkA c o) = some x → x.oneCell' = true := fun c o x h hx => by
    rcases h with h | h
    · rw [← sV_len a] at h; exact sV_one x (hv.cells h hx)
    · rw [← sV_len b] at h; exact sV_one x (hu.cells h hx)
  refine (FnOK.kit (sameTexts_ok a b ha hb) w (fun c o => cellsOf v a.length c o ∨ cellsOf u b.length c o) hS [v, u] rfl (fun i c x h1 h2 => ?_)).mono ?_
  · match i, h1, h2 with
    | 0, h1, h2 =>
      simp at h1 h2; subst h1; subst h2
      exact ⟨sl_arg hv fun base cap e b o eb q hq => .inl ⟨base, cap, b, o, q, e, eb, hq, rfl, rfl⟩, rfl⟩
    | 1, h1, h2 =>
      simp at h1 h2; subst h1; subst h2
      exact ⟨sl_arg hu fun base cap e b o eb q hq => .inr ⟨base, cap, b, o, q, e, eb, hq, rfl, rfl⟩, rfl⟩
    | i + 2, h1, _ => simp at h1
  · rintro e w' ⟨x, G', rfl, hr, hB, h3, h4⟩
    cases hr
    exact ⟨rfl, hB⟩
theorem same_kit (a b : List UInt8) (w : World) (v u : Value) (hv : SlAt w v (bV a)) (hu : SlAt w u (bV b)) :
    Calls Try.prog 15 #[v, u] w fun e w' => e = .returned (.bool (a == b)) ∧ Below w.heap.size w w' := by
  have hS : ∀ c o x, (cellsOf v a.length c o ∨ cellsOf u b.length c o) → w.cell? (mkA c o) = some x → x.oneCell' = true := fun c o x h hx => by
    rcases h with h | h
    · rw [← bV_len a] at h; exact bV_one x (hv.cells h hx)
    · rw [← bV_len b] at h; exact bV_one x (hu.cells h hx)
  refine (FnOK.kit (same_ok a b false false) w (fun c o => cellsOf v a.length c o ∨ cellsOf u b.length c o) hS [v, u] rfl (fun i c x h1 h2 => ?_)).mono ?_
  · match i, h1, h2 with
    | 0, h1, h2 =>
      simp at h1 h2; subst h1; subst h2
      exact ⟨bs_arg hv fun base cap e b o eb q hq => .inl ⟨base, cap, b, o, q, e, eb, hq, rfl, rfl⟩, rfl⟩
    | 1, h1, h2 =>
      simp at h1 h2; subst h1; subst h2
      exact ⟨bs_arg hu fun base cap e b o eb q hq => .inr ⟨base, cap, b, o, q, e, eb, hq, rfl, rfl⟩, rfl⟩
    | i + 2, h1, _ => simp at h1
  · rintro e w' ⟨x, G', rfl, hr, hB, h3, h4⟩
    cases hr
    exact ⟨rfl, hB⟩
theorem awake_kit (w : World) : Calls Try.prog 16 #[] w fun e w' => e = .returned (.bool true) ∧ Below w.heap.size w w' := by
  refine (FnOK.kit awake1_ok w (fun _ _ => False) (fun b o u h => h.elim) [] rfl (fun i c x h1 h2 => by simp at h1)).mono ?_
  rintro e w' ⟨x, G', rfl, hr, hB, h3, h4⟩
  cases hr
  exact ⟨rfl, hB⟩
theorem hv_hxd : ∀ d : Fin 16, hv (hxd d.val) = some d.val := by decide
theorem unhex_hex : ∀ b : List UInt8, unhexL (hexL b) = some b
  | [] => rfl
  | c :: b => by
    have h1 := hv_hxd ⟨c.toNat / 16, by have := c.toNat_lt; omega⟩
    have h2 := hv_hxd ⟨c.toNat % 16, Nat.mod_lt _ (by decide)⟩
    have e : hexL (c :: b) = hxd (c.toNat / 16) :: hxd (c.toNat % 16) :: hexL b := by simp [hexL]
    rw [e, unhexL, h1, h2, unhex_hex b]
    simp only [Option.some.injEq, List.cons.injEq, and_true]
    apply UInt8.toNat_inj.1
    have := c.toNat_lt
    simp only [UInt8.toNat_ofNat']
    omega
theorem hexL_len (b : List UInt8) : (hexL b).length = 2 * b.length := by
  induction b with
  | nil => rfl
  | cons c b ih =>
    have e : hexL (c :: b) = hxd (c.toNat / 16) :: hxd (c.toNat % 16) :: hexL b := by simp [hexL]
    rw [e]; simp only [List.length_cons, ih]; omega
theorem num4_be4 (n : Nat) (r : List UInt8) (h : n < 4294967296) : num4 (be4 n ++ r) = n := by
  unfold num4 be4
  simp [List.getD]
  omega
theorem packL_cons (s : List UInt8) (l : List (List UInt8)) : packL (s :: l) = be4 s.length ++ (s ++ packL l) := by simp [packL]
theorem unp_pack : ∀ (l : List (List UInt8)) (k : Nat), (packL l).length < 4294967296 → l.length ≤ k → unp k (packL l) = some l
  | [], 0, _, _ => rfl
  | [], k + 1, _, _ => by unfold unp; rfl
  | s :: l, 0, _, h => by simp at h
  | s :: l, k + 1, hp, h => by
    rw [packL_cons] at hp ⊢
    have hb : (be4 s.length).length = 4 := rfl
    simp only [List.length_append, hb] at hp
    have hn := num4_be4 s.length (s ++ packL l) (by omega)
    unfold unp
    rw [hn, if_neg (by simp only [List.length_append, hb]; omega), if_neg (by simp only [List.length_append, hb]; omega), if_neg (by simp only [List.length_append, hb]; omega)]
    have e1 : (be4 s.length ++ (s ++ packL l)).drop 4 = s ++ packL l := by
      rw [show 4 = (be4 s.length).length from hb.symm, List.drop_left]
    have e2 : (be4 s.length ++ (s ++ packL l)).drop (4 + s.length) = packL l := by
      rw [← List.drop_drop, e1, List.drop_left]
    rw [e2, e1, List.take_left, unp_pack l k (by omega) (by simpa using h)]
    rfl
theorem packL_ge (l : List (List UInt8)) : l.length ≤ (packL l).length := by
  induction l with
  | nil => simp
  | cons s l ih => rw [packL_cons]; simp only [List.length_append, List.length_cons, be4, List.length_nil]; omega
theorem unpack_pack (l : List (List UInt8)) (h : (packL l).length < 4294967296) : unpackL (packL l) = some l := unp_pack l _ h (packL_ge l)

end Go.Proofs.Ytfkpdfpnpcdhaaa
