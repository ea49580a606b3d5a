/- Sig.query, walked, and its contract. -/
import Derived.Test.YtnohmijdpmelpaaGreatSort
import Derived.BigQuiet
import Derived.Deep.QuietTactic
import Derived.WalkSpells
import Derived.Deep.RegionLaw
set_option maxRecDepth 100000
set_option linter.unusedVariables false
set_option linter.unusedSimpArgs false
set_option linter.unusedSectionVars false
namespace Go.Proofs.YtnohmijdpmelpaaGreat
open Go Go.Am Go.RowKit
attribute [local go_sem] Oper.semAt_some
set_option maxHeartbeats 4000000 in
theorem q19_core (pre : Bool) (l : List Hd) (n : Nat) (hn : Hid (l.length = n)) (hl : n ≤ 2097153) (hp : Hid (∀ p ∈ l, p.1.length ≤ 2097152 ∧ p.2.length ≤ 2097152)) (res : Option (List UInt8)) (hres : Hid (res = (cPairs pre l).map fun ps => joinL ((sortP ps).map fmtP) [38])) (w : World)
    (bn : Option Addr) (cap : Nat) (base : Option (Nat × Nat)) (HBN : Hid (bn = base.map fun p => mkA p.1 p.2)) (hb0 : base = none → n = 0) (hc : ∀ b o, base = some (b, o) → ∀ i, i < n → w.cell? (mkA b (o + i * 2)) = some (.string ⟨(l.getD i ([], [])).1.toArray⟩) ∧ w.cell? (mkA b (o + i * 2 + 1)) = some (.string ⟨(l.getD i ([], [])).2.toArray⟩)) :
    Calls Tryz.prog 19 #[.slice bn n cap, .bool pre] w fun e w' => e = .returned (.tuple #[.string ⟨(res.getD []).toArray⟩, .bool res.isSome]) ∧ Below w.heap.size w w' := by
  have HH : Hid ((base = none → n = 0) ∧ (∀ b o, base = some (b, o) → ∀ i, i < n → w.cell? (mkA b (o + i * 2)) = some (.string ⟨(l.getD i ([], [])).1.toArray⟩) ∧ w.cell? (mkA b (o + i * 2 + 1)) = some (.string ⟨(l.getD i ([], [])).2.toArray⟩))) := ⟨hb0, hc⟩
  clear hb0 hc
  go_enter Tryz.func19, Tryz.ntmps19
  go_wp2
  go_loopw [6, 18] (fun v i wr => ∃ (k : Nat) (ps : List Hd) (bs : List Nat), i = .int .i64 k ∧ k ≤ n ∧ cPairs pre (l.take k) = some ps ∧ St w wr v ps bs)
    (fun _ i _ => match i with | .int _ k => n - k.toNat | _ => 0)
  case atStart => exact ⟨0, [], [], rfl, Nat.zero_le _, cP_nil pre, St.start w⟩
  case round =>
    obtain ⟨k, ps, bs, rfl, hk, hps, hst⟩ := hrel
    by_cases hk2 : k < n
    · obtain ⟨b, o, hbo⟩ : ∃ b o, base = some (b, o) := by
        cases base with
        | none => have := HH.out.1 rfl; omega
        | some p => exact ⟨p.1, p.2, rfl⟩
      have hbn : bn = some ⟨b, o, none⟩ := by rw [HBN.out, hbo]; rfl
      subst hbn
      obtain ⟨g1, g2⟩ := HH.out.2 b o hbo k hk2
      have c1 : wr.cell? ⟨b, o + k * 2, none⟩ = _ := (hst.below.cell (p := mkA b (o + k * 2)) (World.block_lt_of_cell? _ _ g1)).trans g1
      have c2 : wr.cell? ⟨b, o + k * 2 + 1, none⟩ = _ := (hst.below.cell (p := mkA b (o + k * 2 + 1)) (World.block_lt_of_cell? _ _ g2)).trans g2
      obtain ⟨x, hx⟩ : ∃ x, x = l.getD k ([], []) := ⟨_, rfl⟩
      rw [← hx] at c1 c2
      have hxm : x ∈ l := by rw [hx, List.getD_eq_getElem?_getD, List.getElem?_eq_getElem (show k < l.length by rw [hn.out]; exact hk2)]; exact List.getElem_mem _
      have hxl := hp.out x hxm
      obtain ⟨X1, hX1⟩ : ∃ X : ByteArray, X = ⟨x.1.toArray⟩ := ⟨_, rfl⟩
      obtain ⟨X2, hX2⟩ : ∃ X : ByteArray, X = ⟨x.2.toArray⟩ := ⟨_, rfl⟩
      have KA := k18 x.1 false (by omega)
      have KB := k18 x.2 false (by omega)
      rw [← hX1] at c1 KA
      rw [← hX2] at c2 KB
      obtain ⟨z, hz⟩ : ∃ z : Hd, z = (escL ((unescL x.1).getD []) false, escL ((unescL x.2).getD []) false) := ⟨_, rfl⟩
      have KA' : Hid (∀ w, Calls Tryz.prog 18 #[.string X1, .bool false] w fun e w' => e = .returned (.tuple #[.string ⟨z.1.toArray⟩, .bool (unescL x.1).isSome]) ∧ Below w.heap.size w w') := by rw [hz]; exact KA
      have KB' : Hid (∀ w, Calls Tryz.prog 18 #[.string X2, .bool false] w fun e w' => e = .returned (.tuple #[.string ⟨z.2.toArray⟩, .bool (unescL x.2).isSome]) ∧ Below w.heap.size w w') := by rw [hz]; exact KB
      have HX : Hid (X1 = ⟨x.1.toArray⟩ ∧ X2 = ⟨x.2.toArray⟩ ∧ z = (escL ((unescL x.1).getD []) false, escL ((unescL x.2).getD []) false) ∧ x = l.getD k ([], [])) := ⟨hX1, hX2, hz, hx⟩
      have HR : Hid (cPairs pre (l.take k) = some ps ∧ St w wr u6 ps bs) := ⟨hps, hst⟩
      clear hX1 hX2 hx hxm hxl KA KB g1 g2 hps hst hbo hz
      by_cases hsk : pre = true ∧ x.1 = xsig
      · obtain ⟨rfl, hx1⟩ := hsk
        have hX1 : X1 = ⟨#[88, 45, 65, 109, 122, 45, 83, 105, 103, 110, 97, 116, 117, 114, 101]⟩ := by rw [HX.out.1, hx1]; rfl
        have HS : Hid (x.1 = xsig) := hx1
        clear hx1 KA' KB'
        subst hX1
        go_wp2
        exact ⟨⟨k + 1, ps, bs, by simp, by omega, by rw [cP_snoc HR.out.1 (by rw [hn.out]; exact hk2) HX.out.2.2.2, cP_skip HS.out]; simp, HR.out.2.alloc _⟩, by simp; omega⟩
      · have HN : Hid (¬ (pre = true ∧ x.1 = xsig)) := hsk
        have hX1 : pre = true → (X1.toList == [88, 45, 65, 109, 122, 45, 83, 105, 103, 110, 97, 116, 117, 114, 101]) = false := fun e => by
          rw [HX.out.1, tl_mk, beq_eq_false_iff_ne]
          exact fun h => hsk ⟨e, h⟩
        clear hsk
        have hd : pre = false ∨ (pre = true ∧ (X1.toList == [88, 45, 65, 109, 122, 45, 83, 105, 103, 110, 97, 116, 117, 114, 101]) = false) := by
          cases pre with
          | false => exact .inl rfl
          | true => exact .inr ⟨rfl, hX1 rfl⟩
        clear hX1
        cases ea : unescL x.1 with
        | none =>
          have HE : Hid (res = none) := by
            have := cP_none HR.out.1 (by rw [hn.out]; exact hk2) HX.out.2.2.2 (cP_bad HN.out (.inl ea))
            have e := hres.out
            rw [this] at e; exact e
          have KA2 : Hid (∀ w, Calls Tryz.prog 18 #[.string X1, .bool false] w fun e w' => e = .returned (.tuple #[.string ⟨z.1.toArray⟩, .bool false]) ∧ Below w.heap.size w w') := by rw [ea] at KA'; exact KA'
          obtain ⟨b2, hb2⟩ : ∃ b, b = (unescL x.2).isSome := ⟨_, rfl⟩
          have KB2 : Hid (∀ w, Calls Tryz.prog 18 #[.string X2, .bool false] w fun e w' => e = .returned (.tuple #[.string ⟨z.2.toArray⟩, .bool b2]) ∧ Below w.heap.size w w') := by rw [hb2]; exact KB'
          clear ea KA' KB' hb2
          rcases hd with rfl | ⟨rfl, hX⟩
          all_goals
            go_wp2_with first
              | (go_at_call 18; refine (KA2.out _).mono ?_; rintro e w2 ⟨rfl, hB2⟩; have B2 : Hid (St w w2 u6 ps bs) := (HR.out.2.alloc _).keep hB2; have c3 := (newcell hB2).2; clear hB2 KA2)
              | (go_at_call 18; refine (KB2.out w2).mono ?_; rintro e w3 ⟨rfl, hB3⟩; have B3 : Hid (St w w3 u6 ps bs) := B2.out.keep hB3; clear hB3 KB2)
            go_ret2
            rw [HE.out]
            exact ⟨rfl, B3.out.below⟩
        | some ta =>
          cases eb : unescL x.2 with
          | none =>
            have HE : Hid (res = none) := by
              have := cP_none HR.out.1 (by rw [hn.out]; exact hk2) HX.out.2.2.2 (cP_bad HN.out (.inr eb))
              have e := hres.out
              rw [this] at e; exact e
            have KA2 : Hid (∀ w, Calls Tryz.prog 18 #[.string X1, .bool false] w fun e w' => e = .returned (.tuple #[.string ⟨z.1.toArray⟩, .bool true]) ∧ Below w.heap.size w w') := by rw [ea] at KA'; exact KA'
            have KB2 : Hid (∀ w, Calls Tryz.prog 18 #[.string X2, .bool false] w fun e w' => e = .returned (.tuple #[.string ⟨z.2.toArray⟩, .bool false]) ∧ Below w.heap.size w w') := by rw [eb] at KB'; exact KB'
            clear ea eb KA' KB'
            rcases hd with rfl | ⟨rfl, hX⟩
            all_goals
              go_wp2_with first
              | (go_at_call 18; refine (KA2.out _).mono ?_; rintro e w2 ⟨rfl, hB2⟩; have B2 : Hid (St w w2 u6 ps bs) := (HR.out.2.alloc _).keep hB2; have c3 := (newcell hB2).2; clear hB2 KA2)
              | (go_at_call 18; refine (KB2.out w2).mono ?_; rintro e w3 ⟨rfl, hB3⟩; have B3 : Hid (St w w3 u6 ps bs) := B2.out.keep hB3; clear hB3 KB2)
              go_ret2
              rw [HE.out]
              exact ⟨rfl, B3.out.below⟩
          | some tb =>
            have KA2 : Hid (∀ w, Calls Tryz.prog 18 #[.string X1, .bool false] w fun e w' => e = .returned (.tuple #[.string ⟨z.1.toArray⟩, .bool true]) ∧ Below w.heap.size w w') := by rw [ea] at KA'; exact KA'
            have KB2 : Hid (∀ w, Calls Tryz.prog 18 #[.string X2, .bool false] w fun e w' => e = .returned (.tuple #[.string ⟨z.2.toArray⟩, .bool true]) ∧ Below w.heap.size w w') := by rw [eb] at KB'; exact KB'
            have hcp : Hid (cPairs pre (l.take (k + 1)) = some (ps ++ [z])) := by
              have e := cP_snoc HR.out.1 (by rw [hn.out]; exact hk2) HX.out.2.2.2
              rw [e, cP_two HN.out ea eb, HX.out.2.2.1, ea, eb]; rfl
            have hpl : ps.length ≤ 2097153 := by
              have := cP_len HR.out.1
              rw [List.length_take] at this; omega
            clear ea eb KA' KB'
            rcases hd with rfl | ⟨rfl, hX⟩
            all_goals
              go_wp2_with first
              | (go_at_call 18; refine (KA2.out _).mono ?_; rintro e w2 ⟨rfl, hB2⟩; have B2 : Hid (St w w2 u6 ps bs) := (HR.out.2.alloc _).keep hB2; have c3 := (newcell hB2).2; clear hB2 KA2)
              | (go_at_call 18; refine (KB2.out w2).mono ?_; rintro e w3 ⟨rfl, hB3⟩; have B3 : Hid (St w w3 u6 ps bs) := B2.out.keep hB3; clear hB3 KB2)
              | (at_builtin; go_must (refine app_sl (w3 := w3) rfl _ _ rfl u6 ps bs z rfl B3.out rfl hpl ?_; intro v' w4 hst4; have B4 : Hid (St w w4 v' (ps ++ [z]) (bs ++ [w3.heap.size])) := hst4; clear hst4))
              exact ⟨⟨k + 1, ps ++ [z], bs ++ [w3.heap.size], by simp, by omega, hcp.out, B4.out⟩, by simp; omega⟩
    · have hkn : k = n := by omega
      subst hkn
      have hps' : cPairs pre l = some ps := by
        have := hps
        rwa [List.take_of_length_le (by rw [hn.out]; exact Nat.le_refl _)] at this
      have hbd := cPairs_part pre 2097152 l ps hp.out hps'
      obtain ⟨L, hL⟩ : ∃ L, L = sortP ps := ⟨_, rfl⟩
      have hLl : L.length = ps.length := by rw [hL, sortP_len]
      have hLb : ∀ q ∈ L, q.1.length ≤ 6291456 ∧ q.2.length ≤ 6291456 := fun q hq => by
        have := hbd.2 q ((sortP_perm ps).mem_iff.1 (hL ▸ hq)); omega
      have hjb := join_bd L (by rw [hLl]; have := hbd.1; rw [hn.out] at this; omega) hLb
      have hres' : res = some (joinL (L.map fmtP) [38]) := by
        have := hres.out
        rw [hps'] at this; rw [this, hL]; rfl
      obtain ⟨m, hm⟩ : ∃ m, m = ps.length := ⟨_, rfl⟩
      have hml : m ≤ 2097153 := by have := hbd.1; rw [hn.out] at this; omega
      obtain ⟨u, cu, rfl⟩ : ∃ u c, u6 = Value.slice u m c := by
        rcases hst.row.2 with ⟨h, h0⟩ | ⟨g, cp, cur, h, _⟩
        · exact ⟨none, 0, by rw [h, hm, h0]⟩
        · exact ⟨_, _, by rw [hm]; exact h⟩
      have KS := sort_st hst hm.symm hml
      rw [← hL] at KS
      have KS : Hid (Calls Tryz.prog 55 #[.slice u m cu, .func (.func 56) #[] #[]] wr fun e w' => e = .returned (.tuple #[]) ∧ Below w.heap.size w w' ∧ ∃ (g : Nat) (bs' : Nat → Nat), (0 < m → u = some ⟨g, 0, none⟩) ∧
        ∀ j, j < m → w'.cell? ⟨g, j, none⟩ = some (slV (bs' j)) ∧ w'.cell? ⟨bs' j, 0, none⟩ = some (.string ⟨(L.getD j ([], [])).1.toArray⟩) ∧ w'.cell? ⟨bs' j, 1, none⟩ = some (.string ⟨(L.getD j ([], [])).2.toArray⟩)) := KS
      have HR : Hid (L.length = m ∧ (∀ q ∈ L, q.1.length ≤ 6291456 ∧ q.2.length ≤ 6291456) ∧ (joinL (L.map fmtP) [38]).length ≤ 35184372088832 ∧ res = some (joinL (L.map fmtP) [38])) := ⟨by rw [hLl, hm], hLb, hjb, hres'⟩
      clear hps hps' hbd hL hLl hLb hjb hres' hm hst hk hk2
      go_wp2_with (go_at_call 55; refine KS.out.mono ?_; rintro e w5 ⟨rfl, hB5, g, bs', hu, hcs⟩; have H5 : Hid (Below w.heap.size w w5 ∧ (0 < m → u = some ⟨g, 0, none⟩) ∧ (∀ j, j < m → w5.cell? ⟨g, j, none⟩ = some (slV (bs' j)) ∧ w5.cell? ⟨bs' j, 0, none⟩ = some (.string ⟨(L.getD j ([], [])).1.toArray⟩) ∧ w5.cell? ⟨bs' j, 1, none⟩ = some (.string ⟨(L.getD j ([], [])).2.toArray⟩))) := ⟨hB5, hu, hcs⟩; clear hB5 hu hcs KS)
      go_loopw [13, 57] (fun s v wx => ∃ (j : Nat), v = .int .i64 j ∧ j ≤ m ∧ wx.ownsRow w5.heap.size 9 1 s j (sV ((L.take j).map fmtP)) ∧ Below w5.heap.size w5 wx)
        (fun _ v _ => match v with | .int _ j => m - j.toNat | _ => 0)
      case atStart => exact ⟨0, rfl, Nat.zero_le _, World.ownsRow_nil _ _ _ _, Below.refl _ _⟩
      case round =>
        obtain ⟨j, rfl, hjm, hro, hB2⟩ := hrel
        by_cases hj : j < m
        · have hu := H5.out.2.1 (by omega)
          subst hu
          have hjL : j < L.length := by rw [HR.out.1]; exact hj
          obtain ⟨q, hq⟩ : ∃ q, q = L.getD j ([], []) := ⟨_, rfl⟩
          obtain ⟨e0, e1, e2⟩ := H5.out.2.2 j hj
          rw [← hq] at e1 e2
          have hqm : q ∈ L := by rw [hq, List.getD_eq_getElem?_getD, List.getElem?_eq_getElem hjL]; exact List.getElem_mem _
          have hqs := HR.out.2.1 q hqm
          obtain ⟨Q1, hQ1⟩ : ∃ Q : ByteArray, Q = ⟨q.1.toArray⟩ := ⟨_, rfl⟩
          obtain ⟨Q2, hQ2⟩ : ∃ Q : ByteArray, Q = ⟨q.2.toArray⟩ := ⟨_, rfl⟩
          have hs1 : Q1.size ≤ 6291456 := by rw [hQ1]; show q.1.toArray.size ≤ _; rw [List.size_toArray]; exact hqs.1
          have hs2 : Q2.size ≤ 6291456 := by rw [hQ2]; show q.2.toArray.size ≤ _; rw [List.size_toArray]; exact hqs.2
          rw [← hQ1] at e1
          rw [← hQ2] at e2
          have f0 := (hB2.cell (p := ⟨g, j, none⟩) (World.block_lt_of_cell? _ _ e0)).trans e0
          have f1 := (hB2.cell (p := ⟨bs' j, 0, none⟩) (World.block_lt_of_cell? _ _ e1)).trans e1
          have f2 := (hB2.cell (p := ⟨bs' j, 1, none⟩) (World.block_lt_of_cell? _ _ e2)).trans e2
          generalize bs' j = b at e0 e1 e2 f0 f1 f2
          have f0 : wr.cell? ⟨g, j, none⟩ = some (.slice (some ⟨b, 0, none⟩) 2 2) := f0
          have HQ : Hid (⟨(fmtP q).toArray⟩ = Q1 ++ ⟨#[61]⟩ ++ Q2) := by
            rw [hQ1, hQ2, show (⟨#[61]⟩ : ByteArray) = ⟨([61] : List UInt8).toArray⟩ from rfl, cat_mk, cat_mk]
            rfl
          have HB2 : Hid (wr.ownsRow w5.heap.size 9 1 u13 j (sV ((L.take j).map fmtP)) ∧ Below w5.heap.size w5 wr ∧ q = L.getD j ([], []) ∧ j < L.length) := ⟨hro, hB2, hq, hjL⟩
          clear hro hB2 hqm hqs hQ1 hQ2 hq hjL e0 e1 e2
          have hjm' : (j : Int) < (m : Int) := by omega
          have n1 : ¬ 9223372036854775807 < Q1.size + 1 := by omega
          have n2 : ¬ 9223372036854775807 < Q1.size + 1 + Q2.size := by omega
          go_wp2
          go_region_law (refine step_out rfl (.tmp 61) (.tmp 70) rfl u13 j L q _ rfl HB2.out HQ.out (by omega) rfl ?_; intro v6 w6 hr6 hb6; have H6 : Hid (w6.ownsRow w5.heap.size 9 1 v6 (j + 1) (sV ((L.take (j + 1)).map fmtP)) ∧ Below w5.heap.size w5 w6) := ⟨hr6, hb6⟩; clear hr6 hb6)
          all_goals
            go_wp2
            exact ⟨⟨j + 1, by simp, by omega, H6.out.1, H6.out.2⟩, by simp; omega⟩
        · have hjm2 : j = m := by omega
          subst hjm2
          have KJ := join_at (L.map fmtP) [38] wr u13 (slAt_row (by
            have := hro
            rwa [List.take_of_length_le (by rw [HR.out.1]; exact Nat.le_refl _)] at this)) (by rw [List.length_map, HR.out.1]; omega) (by have := HR.out.2.2.1; omega)
          have KJ : Hid (Calls Tryz.prog 22 #[u13, .string ⟨#[38]⟩] wr fun e w' => e = .returned (.string ⟨(joinL (L.map fmtP) [38]).toArray⟩) ∧ Below wr.heap.size wr w') := KJ
          have HE : Hid (Below w5.heap.size w5 wr) := hB2
          clear hro hB2
          go_wp2_with (go_at_call 22; refine KJ.out.mono ?_; rintro e w6 ⟨rfl, hB6⟩)
          go_ret2
          rw [HR.out.2.2.2]
          exact ⟨rfl, H5.out.1.trans ((HE.out.trans (hB6.mono HE.out.size)).mono H5.out.1.size)⟩
end Go.Proofs.YtnohmijdpmelpaaGreat
set_option maxRecDepth 100000
set_option linter.unusedVariables false
namespace Go.Proofs.YtnohmijdpmelpaaGreat
open Go Go.Am Go.RowKit
/-- a query's canonical text, of pairs -/
def pairsC (l : List Hd) (pre : Bool) : Option (List UInt8) := (cPairs pre l).map fun ps => joinL ((sortP ps).map fmtP) [38]
theorem query19_ok (l : List Hd) (pre : Bool) (hl : l.length ≤ 2097153) (hp : ∀ p ∈ l, p.1.length ≤ 2097152 ∧ p.2.length ≤ 2097152) :
    FnOK Tryz.prog 19 [.sl 2 l.length (hdEl l) false, .bool pre] [] (.tup [.str ((pairsC l pre).getD []), .bool (pairsC l pre).isSome]) [] := by
  refine FnOK.of_below rfl fun w G vs hlen ha hw => ?_
  obtain ⟨v0, v1, rfl⟩ : ∃ v0 v1, vs = [v0, v1] := by
    match vs, hlen with
    | [v0, v1], _ => exact ⟨v0, v1, rfl⟩
  have h0 := ha 0 _ v0 rfl rfl
  have h1 := (ha 1 _ v1 rfl rfl).bool_inv
  subst h1
  obtain ⟨base, cap, rfl, hb0, hc⟩ := hdAt_of h0
  refine (q19_core pre l l.length rfl hl hp (pairsC l pre) rfl w _ cap base rfl hb0 hc).mono ?_
  rintro e w' ⟨rfl, hB⟩
  refine ⟨_, rfl, fun G w => .tup _ _ [_, _] rfl fun q c v e1 e2 => ?_, hB⟩
  match q, e1, e2 with
  | 0, e1, e2 => simp at e1 e2; subst e1; subst e2; exact .str ..
  | 1, e1, e2 => simp at e1 e2; subst e1; subst e2; exact .bool ..
  | q + 2, e1, _ => simp at e1
end Go.Proofs.YtnohmijdpmelpaaGreat
