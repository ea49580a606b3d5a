/- The document's query, walked. -/
import Derived.Test.YtnohmijdpmelpaaGreatRow
import Derived.BigQuiet
import Derived.Deep.QuietTactic
import Derived.WalkSpells
import Derived.StillTailTactics
set_option maxRecDepth 100000
set_option linter.unusedVariables false
set_option linter.unusedSimpArgs false
set_option linter.unusedSectionVars false
namespace Go.Proofs.YtnohmijdpmelpaaGreat
open Go Go.Am Go.RowKit
attribute [local go_sem] Oper.semAt_some
theorem tl_mk (l : List UInt8) : (⟨l.toArray⟩ : ByteArray).toList = l := by simp [ByteArray.toList_eq]
theorem cP_cons (pre : Bool) (p : Hd) (r : List Hd) : cPairs pre (p :: r) = if pre = true ∧ p.1 = xsig then cPairs pre r else match unescL p.1, unescL p.2 with
    | some a, some b => (cPairs pre r).map ((escL a false, escL b false) :: ·)
    | _, _ => none := by
  conv => lhs; unfold cPairs
  split <;> rfl
theorem cP_app (pre : Bool) : ∀ (l m : List Hd), cPairs pre (l ++ m) = (cPairs pre l).bind fun a => (cPairs pre m).map (a ++ ·)
  | [], m => by
    have : cPairs pre [] = some [] := by unfold cPairs; rfl
    cases h : cPairs pre m <;> simp [this, h]
  | p :: l, m => by
    have ih := cP_app pre l m
    rw [List.cons_append, cP_cons, cP_cons]
    split
    · exact ih
    · split
      · rw [ih]
        cases h1 : cPairs pre l with
        | none => rfl
        | some a => cases h2 : cPairs pre m <;> simp
      · rfl
theorem take_snoc {α : Type} {l : List α} {k : Nat} (d : α) (h : k < l.length) : l.take (k + 1) = l.take k ++ [l.getD k d] := by
  rw [List.take_add_one, List.getD_eq_getElem?_getD, List.getElem?_eq_getElem h]; rfl
theorem cP_snoc {pre : Bool} {l : List Hd} {k : Nat} {ps : List Hd} {x : Hd} (h : cPairs pre (l.take k) = some ps) (hk : k < l.length) (hx : x = l.getD k ([], [])) : cPairs pre (l.take (k + 1)) = (cPairs pre [x]).map (ps ++ ·) := by
  rw [take_snoc ([], []) hk, cP_app, h, hx]; rfl
theorem cP_none {pre : Bool} {l : List Hd} {k : Nat} {ps : List Hd} {x : Hd} (h : cPairs pre (l.take k) = some ps) (hk : k < l.length) (hx : x = l.getD k ([], [])) (hn : cPairs pre [x] = none) : cPairs pre l = none := by
  have e : l = l.take (k + 1) ++ l.drop (k + 1) := (List.take_append_drop _ _).symm
  rw [e, cP_app, cP_snoc h hk hx, hn]; rfl
theorem cP_nil (pre : Bool) : cPairs pre [] = some [] := by unfold cPairs; rfl
theorem cP_skip {x : Hd} (h : x.1 = xsig) : cPairs true [x] = some [] := by rw [cP_cons, if_pos ⟨rfl, h⟩, cP_nil]
theorem cP_two {pre : Bool} {x : Hd} (h : ¬ (pre = true ∧ x.1 = xsig)) {a b : List UInt8} (ha : unescL x.1 = some a) (hb : unescL x.2 = some b) : cPairs pre [x] = some [(escL a false, escL b false)] := by
  rw [cP_cons, if_neg h, ha, hb, cP_nil]; rfl
theorem cP_bad {pre : Bool} {x : Hd} (h : ¬ (pre = true ∧ x.1 = xsig)) (hb : unescL x.1 = none ∨ unescL x.2 = none) : cPairs pre [x] = none := by
  rw [cP_cons, if_neg h]
  rcases hb with e | e
  · rw [e]
  · rw [e]; rcases unescL x.1 with _ | y <;> rfl
theorem cP_len {pre : Bool} {l ps : List Hd} (h : cPairs pre l = some ps) : ps.length ≤ l.length := by
  obtain ⟨B, hB⟩ : ∃ B, ∀ p ∈ l, p.1.length ≤ B ∧ p.2.length ≤ B := by
    clear h
    induction l with
    | nil => exact ⟨0, by simp⟩
    | cons q l ih =>
      obtain ⟨B, hB⟩ := ih
      refine ⟨B + q.1.length + q.2.length, fun p hp => ?_⟩
      rcases List.mem_cons.1 hp with rfl | hp
      · omega
      · have := hB p hp; omega
  exact (cPairs_part pre B l ps hB h).1
set_option maxHeartbeats 4000000 in
theorem rq_core (T : ByteArray) (pre : Bool) (l : List Hd) (n : Nat) (hn : Hid (l.length = n)) (path : ByteArray) (hl : n ≤ 2097153) (hp : Hid (∀ p ∈ l, p.1.length ≤ 2097152 ∧ p.2.length ≤ 2097152))
    (K23 : Hid (∀ w, Calls Tryz.prog 23 #[.string T] w fun e w' => ∃ v, e = .returned (.tuple #[.string path, v]) ∧ HdAt w' v l ∧ Below w.heap.size w w')) (res : Option (List UInt8)) (hres : Hid (res = (cPairs pre l).map fun ps => joinL ((sortP ps).map fmtP) [38])) (w : World) :
    Calls Tryz.prog 25 #[.string T, .bool pre] w fun e w' => e = .returned (.tuple #[.string ⟨(res.getD []).toArray⟩, .bool res.isSome]) ∧ Below w.heap.size w w' := by
  go_enter Tryz.func25, Tryz.ntmps25
  go_wp2_with (go_at_call 23; refine (K23.out w).mono ?_; rintro e w1 ⟨v, rfl, hH, hB1⟩; obtain ⟨base, cap, rfl, hb0, hc⟩ := hH; rw [hn.out] at hb0 hc ⊢; have HH : Hid ((base = none → n = 0) ∧ (∀ b o, base = some (b, o) → ∀ i, i < n → w1.cell? (mkA b (o + i * 2)) = some (.string ⟨(l.getD i ([], [])).1.toArray⟩) ∧ w1.cell? (mkA b (o + i * 2 + 1)) = some (.string ⟨(l.getD i ([], [])).2.toArray⟩)) ∧ Below w.heap.size w w1) := ⟨hb0, hc, hB1⟩; clear hb0 hc hB1; obtain ⟨bn, hbn⟩ : ∃ bn : Option Addr, bn = base.map fun p => mkA p.1 p.2 := ⟨_, rfl⟩; rw [← hbn]; have HBN : Hid (bn = base.map fun p => mkA p.1 p.2) := hbn; clear hbn)
  go_loopw [8, 9] (fun v i wr => ∃ (k : Nat) (ps : List Hd), i = .int .i64 k ∧ k ≤ n ∧ cPairs pre (l.take k) = some ps ∧ wr.ownsRow w1.heap.size 48 2 v ps.length (cellsP (sortP ps)) ∧ (ps.length = 0 → v = .slice none 0 0) ∧ Below w1.heap.size w1 wr)
    (fun _ i _ => match i with | .int _ k => n - k.toNat | _ => 0)
  case atStart => exact ⟨0, [], rfl, Nat.zero_le _, rfl, World.ownsRow_nil _ _ _ _, fun _ => rfl, Below.refl _ _⟩
  case round =>
    obtain ⟨k, ps, rfl, hk, hps, hrow, hz0, hB⟩ := hrel
    by_cases hk2 : k < n
    · obtain ⟨b, o, hbo⟩ : ∃ b o, base = some (b, o) := by
        cases base with
        | none => have := HH.out.1 rfl; omega
        | some p => exact ⟨p.1, p.2, rfl⟩
      have hbn : bn = some ⟨b, o, none⟩ := by rw [HBN.out, hbo]; rfl
      subst hbn
      obtain ⟨g1, g2⟩ := HH.out.2.1 b o hbo k hk2
      have c1 : wr.cell? ⟨b, o + k * 2, none⟩ = _ := (hB.cell (p := mkA b (o + k * 2)) (World.block_lt_of_cell? _ _ g1)).trans g1
      have c2 : wr.cell? ⟨b, o + k * 2 + 1, none⟩ = _ := (hB.cell (p := mkA b (o + k * 2 + 1)) (World.block_lt_of_cell? _ _ g2)).trans g2
      obtain ⟨x, hx⟩ : ∃ x, x = l.getD k ([], []) := ⟨_, rfl⟩
      rw [← hx] at g1 g2 c1 c2
      have hxm : x ∈ l := by rw [hx, List.getD_eq_getElem?_getD, List.getElem?_eq_getElem (show k < l.length by rw [hn.out]; exact hk2)]; exact List.getElem_mem _
      have hxl := hp.out x hxm
      obtain ⟨X1, hX1⟩ : ∃ X : ByteArray, X = ⟨x.1.toArray⟩ := ⟨_, rfl⟩
      obtain ⟨X2, hX2⟩ : ∃ X : ByteArray, X = ⟨x.2.toArray⟩ := ⟨_, rfl⟩
      have KA := k24 x.1 (by omega)
      have KB := k24 x.2 (by omega)
      rw [← hX1] at g1 c1 KA
      rw [← hX2] at g2 c2 KB
      obtain ⟨Y1, hY1⟩ : ∃ X : ByteArray, X = ⟨((unescL x.1).getD []).toArray⟩ := ⟨_, rfl⟩
      obtain ⟨Y2, hY2⟩ : ∃ X : ByteArray, X = ⟨((unescL x.2).getD []).toArray⟩ := ⟨_, rfl⟩
      rw [← hY1] at KA
      rw [← hY2] at KB
      have KA' : Hid (∀ w, Calls Tryz.prog 24 #[.string X1] w fun e w' => e = .returned (.tuple #[.string Y1, .bool (unescL x.1).isSome]) ∧ Below w.heap.size w w') := KA
      have KB' : Hid (∀ w, Calls Tryz.prog 24 #[.string X2] w fun e w' => e = .returned (.tuple #[.string Y2, .bool (unescL x.2).isSome]) ∧ Below w.heap.size w w') := KB
      have HX : Hid (X1 = ⟨x.1.toArray⟩ ∧ X2 = ⟨x.2.toArray⟩ ∧ Y1 = ⟨((unescL x.1).getD []).toArray⟩ ∧ Y2 = ⟨((unescL x.2).getD []).toArray⟩ ∧ x = l.getD k ([], []) ∧ x ∈ l ∧ x.1.length ≤ 2097152 ∧ x.2.length ≤ 2097152) := ⟨hX1, hX2, hY1, hY2, hx, hxm, hxl.1, hxl.2⟩
      have HG : Hid (w1.cell? (mkA b (o + k * 2)) = some (.string X1) ∧ w1.cell? (mkA b (o + k * 2 + 1)) = some (.string X2)) := ⟨g1, g2⟩
      have HZ0 : Hid (ps.length = 0 → u8 = .slice none 0 0) := hz0
      clear hz0
      have HR : Hid (cPairs pre (l.take k) = some ps ∧ wr.ownsRow w1.heap.size 48 2 u8 ps.length (cellsP (sortP ps)) ∧ Below w1.heap.size w1 wr) := ⟨hps, hrow, hB⟩
      clear hX1 hX2 hY1 hY2 hx hxm hxl KA KB g1 g2 hps hrow hB hbo
      have CW : Hid (∀ W, Below w1.heap.size w1 W → W.cell? ⟨b, o + k * 2, none⟩ = some (.string X1) ∧ W.cell? ⟨b, o + k * 2 + 1, none⟩ = some (.string X2)) := fun W h => ⟨(h.cell (p := mkA b (o + k * 2)) (World.block_lt_of_cell? _ _ HG.out.1)).trans HG.out.1, (h.cell (p := mkA b (o + k * 2 + 1)) (World.block_lt_of_cell? _ _ HG.out.2)).trans HG.out.2⟩
      clear c2
      by_cases hsk : pre = true ∧ x.1 = xsig
      · obtain ⟨rfl, hx1⟩ := hsk
        have hX1 : X1 = ⟨#[88, 45, 65, 109, 122, 45, 83, 105, 103, 110, 97, 116, 117, 114, 101]⟩ := by rw [HX.out.1, hx1]; rfl
        have HS : Hid (x.1 = xsig) := hx1
        clear hx1
        subst hX1
        generalize (unescL x.1).isSome = b1 at *
        generalize (unescL x.2).isSome = b2 at *
        go_wp2_with first
          | (go_at_call 24; refine (KA'.out wr).mono ?_; rintro e w2 ⟨rfl, hB2⟩; have B2 : Hid (Below w1.heap.size w1 w2 ∧ w2.ownsRow w1.heap.size 48 2 u8 ps.length (cellsP (sortP ps))) := keepR ⟨HR.out.2.2, HR.out.2.1⟩ hB2; have c2 := (CW.out w2 B2.out.1).2; clear hB2 KA')
          | (go_at_call 24; refine (KB'.out w2).mono ?_; rintro e w3 ⟨rfl, hB3⟩; have B3 : Hid (Below w1.heap.size w1 w3 ∧ w3.ownsRow w1.heap.size 48 2 u8 ps.length (cellsP (sortP ps))) := keepR B2.out hB3; have c3 := (CW.out w3 B3.out.1).1; clear hB3 KB')
        exact ⟨⟨k + 1, ps, by simp, by omega, by rw [cP_snoc HR.out.1 (by rw [hn.out]; exact hk2) HX.out.2.2.2.2.1, cP_skip HS.out]; simp, B3.out.2, HZ0.out, B3.out.1⟩, by simp; omega⟩
      · have HN : Hid (¬ (pre = true ∧ x.1 = xsig)) := hsk
        have hX1 : pre = true → (X1.toList == [88, 45, 65, 109, 122, 45, 83, 105, 103, 110, 97, 116, 117, 114, 101]) = false := fun e => by
          rw [HX.out.1, tl_mk, beq_eq_false_iff_ne]
          exact fun h => hsk ⟨e, h⟩
        clear hsk
        have hd : pre = false ∨ (pre = true ∧ (X1.toList == [88, 45, 65, 109, 122, 45, 83, 105, 103, 110, 97, 116, 117, 114, 101]) = false) := by
          cases pre with
          | false => exact .inl rfl
          | true => exact .inr ⟨rfl, hX1 rfl⟩
        clear hX1
        cases ea : unescL x.1 with
        | none =>
          have HE : Hid (res = none) := by
            have := cP_none HR.out.1 (by rw [hn.out]; exact hk2) HX.out.2.2.2.2.1 (cP_bad HN.out (.inl ea))
            have e := hres.out
            rw [this] at e; exact e
          have KA2 : Hid (∀ w, Calls Tryz.prog 24 #[.string X1] w fun e w' => e = .returned (.tuple #[.string Y1, .bool false]) ∧ Below w.heap.size w w') := by rw [ea] at KA'; exact KA'
          clear KA'
          obtain ⟨b2, hb2⟩ : ∃ b, b = (unescL x.2).isSome := ⟨_, rfl⟩
          have KB2 : Hid (∀ w, Calls Tryz.prog 24 #[.string X2] w fun e w' => e = .returned (.tuple #[.string Y2, .bool b2]) ∧ Below w.heap.size w w') := by rw [hb2]; exact KB'
          clear KB'
          clear hb2
          clear ea
          rcases hd with rfl | ⟨rfl, hX⟩
          all_goals
            go_wp2_with first
              | (go_at_call 24; refine (KA2.out wr).mono ?_; rintro e w2 ⟨rfl, hB2⟩; have B2 : Hid (Below w1.heap.size w1 w2 ∧ w2.ownsRow w1.heap.size 48 2 u8 ps.length (cellsP (sortP ps))) := keepR ⟨HR.out.2.2, HR.out.2.1⟩ hB2; have c2 := (CW.out w2 B2.out.1).2; clear hB2 KA2)
              | (go_at_call 24; refine (KB2.out w2).mono ?_; rintro e w3 ⟨rfl, hB3⟩; have B3 : Hid (Below w1.heap.size w1 w3 ∧ w3.ownsRow w1.heap.size 48 2 u8 ps.length (cellsP (sortP ps))) := keepR B2.out hB3; have c3 := (CW.out w3 B3.out.1).1; clear hB3 KB2)
            go_ret2
            rw [HE.out]
            exact ⟨rfl, HH.out.2.2.trans (B3.out.1.mono HH.out.2.2.size)⟩
        | some ta =>
          cases eb : unescL x.2 with
          | none =>
            have HE : Hid (res = none) := by
              have := cP_none HR.out.1 (by rw [hn.out]; exact hk2) HX.out.2.2.2.2.1 (cP_bad HN.out (.inr eb))
              have e := hres.out
              rw [this] at e; exact e
            have KA2 : Hid (∀ w, Calls Tryz.prog 24 #[.string X1] w fun e w' => e = .returned (.tuple #[.string Y1, .bool true]) ∧ Below w.heap.size w w') := by rw [ea] at KA'; exact KA'
            clear KA'
            have KB2 : Hid (∀ w, Calls Tryz.prog 24 #[.string X2] w fun e w' => e = .returned (.tuple #[.string Y2, .bool false]) ∧ Below w.heap.size w w') := by rw [eb] at KB'; exact KB'
            clear KB'
            clear ea eb
            rcases hd with rfl | ⟨rfl, hX⟩
            all_goals
              go_wp2_with first
                | (go_at_call 24; refine (KA2.out wr).mono ?_; rintro e w2 ⟨rfl, hB2⟩; have B2 : Hid (Below w1.heap.size w1 w2 ∧ w2.ownsRow w1.heap.size 48 2 u8 ps.length (cellsP (sortP ps))) := keepR ⟨HR.out.2.2, HR.out.2.1⟩ hB2; have c2 := (CW.out w2 B2.out.1).2; clear hB2 KA2)
                | (go_at_call 24; refine (KB2.out w2).mono ?_; rintro e w3 ⟨rfl, hB3⟩; have B3 : Hid (Below w1.heap.size w1 w3 ∧ w3.ownsRow w1.heap.size 48 2 u8 ps.length (cellsP (sortP ps))) := keepR B2.out hB3; have c3 := (CW.out w3 B3.out.1).1; clear hB3 KB2)
              go_ret2
              rw [HE.out]
              exact ⟨rfl, HH.out.2.2.trans (B3.out.1.mono HH.out.2.2.size)⟩
          | some tb =>
            have KA2 : Hid (∀ w, Calls Tryz.prog 24 #[.string X1] w fun e w' => e = .returned (.tuple #[.string Y1, .bool true]) ∧ Below w.heap.size w w') := by rw [ea] at KA'; exact KA'
            have KB2 : Hid (∀ w, Calls Tryz.prog 24 #[.string X2] w fun e w' => e = .returned (.tuple #[.string Y2, .bool true]) ∧ Below w.heap.size w w') := by rw [eb] at KB'; exact KB'
            clear KA' KB'
            obtain ⟨z, hz⟩ : ∃ z : Hd, z = (escL ta false, escL tb false) := ⟨_, rfl⟩
            have hta := unesc_le ea
            have htb := unesc_le eb
            have hxl := HX.out.2.2.2.2.2.2
            have KC : Hid (∀ w, Calls Tryz.prog 26 #[.string Y1, .bool false] w fun e w' => e = .returned (.string ⟨z.1.toArray⟩) ∧ Below w.heap.size w w') := by
              rw [HX.out.2.2.1, ea, hz]; exact k26 ta false (by omega)
            have KD : Hid (∀ w, Calls Tryz.prog 26 #[.string Y2, .bool false] w fun e w' => e = .returned (.string ⟨z.2.toArray⟩) ∧ Below w.heap.size w w') := by
              rw [HX.out.2.2.2.1, eb, hz]; exact k26 tb false (by omega)
            have hcp : cPairs pre (l.take (k + 1)) = some (ps ++ [(escL ta false, escL tb false)]) := by
              rw [cP_snoc HR.out.1 (by rw [hn.out]; exact hk2) HX.out.2.2.2.2.1, cP_two HN.out ea eb]; rfl
            have hpl : ps.length ≤ 2097153 := by
              have := cP_len HR.out.1
              rw [List.length_take] at this; omega
            have HZ : Hid (cPairs pre (l.take (k + 1)) = some (ps ++ [z])) := by rw [hz]; exact hcp
            obtain ⟨m, hm⟩ : ∃ m, m = ps.length := ⟨_, rfl⟩
            obtain ⟨ys, hys⟩ : ∃ ys, ys = sortP ps := ⟨_, rfl⟩
            have hym : ys.length = m := by rw [hys, sortP_len, hm]
            have HZ0 : Hid (m = 0 → u8 = .slice none 0 0) := fun e => HZ0.out (hm ▸ e)
            have HO : Hid (wr.ownsRow w1.heap.size 48 2 u8 m (cellsP ys)) := by rw [hm, hys]; exact HR.out.2.1
            have HY : Hid (m = ps.length ∧ ys = sortP ps ∧ ys.length = m) := ⟨hm, hys, hym⟩
            have hml : m ≤ 2097153 := by omega
            obtain ⟨u, cu, rfl⟩ : ∃ u c, u8 = Value.slice u m c := by
              rcases HO.out.2 with ⟨h, h0⟩ | ⟨g, cp, cur, h, _⟩
              · exact ⟨none, 0, by rw [h, h0]⟩
              · exact ⟨_, _, h⟩
            have HZ0 : Hid (m = 0 → Value.slice u m cu = .slice none 0 0) := HZ0
            clear ea eb hta htb hxl hcp hpl hz hm hys hym
            rcases hd with rfl | ⟨rfl, hX⟩
            all_goals
              go_wp2_with first
                | (go_at_call 24; refine (KA2.out wr).mono ?_; rintro e w2 ⟨rfl, hB2⟩; have B2 : Hid (Below w1.heap.size w1 w2 ∧ w2.ownsRow w1.heap.size 48 2 (.slice u m cu) m (cellsP ys)) := keepR ⟨HR.out.2.2, HO.out⟩ hB2; have c2 := (CW.out w2 B2.out.1).2; clear hB2 KA2)
                | (go_at_call 24; refine (KB2.out w2).mono ?_; rintro e w3 ⟨rfl, hB3⟩; have B3 : Hid (Below w1.heap.size w1 w3 ∧ w3.ownsRow w1.heap.size 48 2 (.slice u m cu) m (cellsP ys)) := keepR B2.out hB3; have c3 := (CW.out w3 B3.out.1).1; clear hB3 KB2)
                | (go_at_call 26; refine (KC.out w3).mono ?_; rintro e w4 ⟨rfl, hB4⟩; have B4 : Hid (Below w1.heap.size w1 w4 ∧ w4.ownsRow w1.heap.size 48 2 (.slice u m cu) m (cellsP ys)) := keepR B3.out hB4; clear hB4 KC)
                | (go_at_call 26; refine (KD.out w4).mono ?_; rintro e w5 ⟨rfl, hB5⟩; have B5 : Hid (Below w1.heap.size w1 w5 ∧ w5.ownsRow w1.heap.size 48 2 (.slice u m cu) m (cellsP ys)) := keepR B4.out hB5; clear hB5 KD)
                | (at_builtin; refine app_hd rfl _ _ rfl w1.heap.size (.slice u m cu) m (cellsP ys) rfl ((B5.out.2.alloc _).alloc _) HZ0.out _ z rfl (cell_two2 _ _ _ _ _) hml w5.heap.size B5.out.1.size (hp_new _ _ _) (fun e => by have := (B5.out.2.lt _ e).2; omega) ?_
                   intro g cg w6 hown6 hgP hgrow; go_must (have H6 : Hid (Below w1.heap.size w1 w6 ∧ w6.ownsRow w1.heap.size 48 2 (.slice (some ⟨g, 0, none⟩) (m + 1) cg) (m + 1) (cellsP (ys ++ [z])) ∧ g ≠ w5.heap.size ∧ w6.heap[w5.heap.size]? = some (.cells #[.string ⟨z.1.toArray⟩, .string ⟨z.2.toArray⟩] 48 (0, 0))) := after_app2 B5.out hown6 hgP hgrow); clear hown6 hgP hgrow)
              go_loopw [15] (fun v wr2 => ∃ (j : Nat) (y : Hd), v = .int .i64 j ∧ j ≤ m ∧ stpP ys z j = stpP ys z m ∧ wr2.ownsRow w1.heap.size 48 2 (.slice (some ⟨g, 0, none⟩) (m + 1) cg) (m + 1) (cellsP (ys.take j ++ y :: ys.drop j)) ∧ Below w1.heap.size w1 wr2 ∧ wr2.heap[w5.heap.size]? = some (.cells #[.string ⟨z.1.toArray⟩, .string ⟨z.2.toArray⟩] 48 (0, 0)))
                (fun v _ => match v with | .int _ j => j.toNat | _ => 0)
              case atStart =>
                refine ⟨m, z, rfl, Nat.le_refl _, rfl, ?_, H6.out.1, H6.out.2.2.2⟩
                rw [List.take_of_length_le (by rw [HY.out.2.2]; exact Nat.le_refl _), List.drop_eq_nil_of_le (by rw [HY.out.2.2]; exact Nat.le_refl _)]
                exact H6.out.2.1
              case round =>
                obtain ⟨j, y, rfl, hj, hst, hro, hB2, hP2⟩ := hrel
                have hjl : (ys.take j).length = j := by rw [List.length_take, HY.out.2.2]; omega
                obtain ⟨d1, d2, d3, d4, d5⟩ := row_cells hro hjl
                obtain ⟨p1, p2⟩ := pcell hP2
                have hfin := row_put hro hjl z
                have HB2 : Hid (Below w1.heap.size w1 wr ∧ wr.ownsRow w1.heap.size 48 2 (.slice (some ⟨g, 0, none⟩) (m + 1) cg) (m + 1) (cellsP (ys.take j ++ y :: ys.drop j)) ∧ w1.heap.size ≤ g ∧ stpP ys z j = stpP ys z m ∧ (ys.take j).length = j) := ⟨hB2, hro, d5, hst, hjl⟩
                have HF : Hid (((wr.setCell ⟨g, j * 2, none⟩ (.string ⟨z.1.toArray⟩)).setCell ⟨g, j * 2 + 1, none⟩ (.string ⟨z.2.toArray⟩)).ownsRow w1.heap.size 48 2 (.slice (some ⟨g, 0, none⟩) (m + 1) cg) (m + 1) (cellsP (ys.take j ++ z :: ys.drop j))) := hfin
                have HP2 : Hid (wr.heap[w5.heap.size]? = some (.cells #[.string ⟨z.1.toArray⟩, .string ⟨z.2.toArray⟩] 48 (0, 0))) := hP2
                clear hB2 hro d5 hst hjl hfin hP2
                cases j with
                | zero =>
                  simp only [Nat.zero_mul, Nat.zero_add] at d1 d2 d3 d4
                  go_wp2
                  go_quiet (fail)
                  go_wp2
                  refine ⟨⟨k + 1, ps ++ [z], by simp, by omega, HZ.out, row_heap (row_done HY.out HB2.out.2.2.2.1 rfl HF.out) rfl, by simp, ((below_dn HB2.out.1 _).setCell (p := ⟨g, 0, none⟩) HB2.out.2.2.1 _).setCell (p := ⟨g, 1, none⟩) HB2.out.2.2.1 _⟩, by simp; omega⟩
                | succ i =>
                  have hil : i < ys.length := by rw [HY.out.2.2]; omega
                  obtain ⟨q, hq⟩ : ∃ q, q = ys.getD i ([], []) := ⟨_, rfl⟩
                  have e12 := row_ahead hil HB2.out.2.1
                  rw [← hq] at e12
                  obtain ⟨e1, e2⟩ := e12
                  have hi1 : wrap64 (((i : Int) + 1) - 1) = (i : Int) := by unfold wrap64; omega
                  have hw : IntKind.i64.wrap (i : Int) = i := by simp [IntKind.wrap, IntKind.bits, IntKind.signed]; omega
                  have him : (i : Int) < (m : Int) + 1 := by omega
                  have HQ : Hid (q = ys.getD i ([], []) ∧ i < ys.length) := ⟨hq, hil⟩
                  clear d1 d2 d3 d4 hil hq
                  have KQ := fun W => k63 z q W
                  cases hcm : belowP z q with
                  | true =>
                    rw [hcm] at KQ
                    have HC : Hid (belowP z q = true) := hcm
                    have KQ : Hid (∀ W, Calls Tryz.prog 63 #[.agg #[.string ⟨z.1.toArray⟩, .string ⟨z.2.toArray⟩], .agg #[.string ⟨q.1.toArray⟩, .string ⟨q.2.toArray⟩]] W fun e w' => e = .returned (.bool true) ∧ Below W.heap.size W w') := KQ
                    clear hcm
                    go_wp2
                    go_still_tail 9, (by kernel_rfl)
                    change wpList _ _ _ _ _ wr.drew
                    go_wp2_with (go_at_call 63; refine (KQ.out wr.drew).mono ?_; rintro e w7 ⟨rfl, hB7⟩; have H7 : Hid (Below w1.heap.size w1 w7 ∧ w7.ownsRow w1.heap.size 48 2 (.slice (some ⟨g, 0, none⟩) (m + 1) cg) (m + 1) (cellsP (ys.take (i + 1) ++ y :: ys.drop (i + 1))) ∧ w7.heap[w5.heap.size]? = some (.cells #[.string ⟨z.1.toArray⟩, .string ⟨z.2.toArray⟩] 48 (0, 0))) := after63 ⟨HB2.out.1, HB2.out.2.1⟩ HP2.out hB7; clear hB7 e1 e2 p1 p2 KQ; obtain ⟨d1, d2, d3, d4, _⟩ := row_cells H7.out.2.1 HB2.out.2.2.2.2; have e12 := row_ahead HQ.out.2 H7.out.2.1; rw [← HQ.out.1] at e12; obtain ⟨e1, e2⟩ := e12; obtain ⟨p1, p2⟩ := pcell H7.out.2.2)
                    refine ⟨⟨i, q, rfl, by omega, (stp_true HQ.out.1 HC.out).symm.trans HB2.out.2.2.2.1, ?_, put_below H7.out.1 HB2.out.2.2.1, put_heap H7.out.2.2 H6.out.2.2.1⟩, by simp⟩
                    have := row_put H7.out.2.1 HB2.out.2.2.2.2 q
                    rw [HQ.out.1] at this ⊢
                    exact row_shift HQ.out.2 this
                  | false =>
                    rw [hcm] at KQ
                    have HC : Hid (belowP z q = false) := hcm
                    have KQ : Hid (∀ W, Calls Tryz.prog 63 #[.agg #[.string ⟨z.1.toArray⟩, .string ⟨z.2.toArray⟩], .agg #[.string ⟨q.1.toArray⟩, .string ⟨q.2.toArray⟩]] W fun e w' => e = .returned (.bool false) ∧ Below W.heap.size W w') := KQ
                    clear hcm
                    go_wp2
                    go_still_tail 9, (by kernel_rfl)
                    change wpList _ _ _ _ _ wr.drew
                    go_wp2_with (go_at_call 63; refine (KQ.out wr.drew).mono ?_; rintro e w7 ⟨rfl, hB7⟩; have H7 : Hid (Below w1.heap.size w1 w7 ∧ w7.ownsRow w1.heap.size 48 2 (.slice (some ⟨g, 0, none⟩) (m + 1) cg) (m + 1) (cellsP (ys.take (i + 1) ++ y :: ys.drop (i + 1))) ∧ w7.heap[w5.heap.size]? = some (.cells #[.string ⟨z.1.toArray⟩, .string ⟨z.2.toArray⟩] 48 (0, 0))) := after63 ⟨HB2.out.1, HB2.out.2.1⟩ HP2.out hB7; clear hB7 e1 e2 p1 p2 KQ; obtain ⟨d1, d2, d3, d4, _⟩ := row_cells H7.out.2.1 HB2.out.2.2.2.2; have e12 := row_ahead HQ.out.2 H7.out.2.1; rw [← HQ.out.1] at e12; obtain ⟨e1, e2⟩ := e12; obtain ⟨p1, p2⟩ := pcell H7.out.2.2)
                    exact ⟨⟨k + 1, ps ++ [z], by simp, by omega, HZ.out, row_done HY.out HB2.out.2.2.2.1 (stp_false HQ.out.1 HC.out) (row_put H7.out.2.1 HB2.out.2.2.2.2 z), by simp, put_below H7.out.1 HB2.out.2.2.1⟩, by simp; omega⟩
    · have hkn : k = n := by omega
      subst hkn
      have hps' : cPairs pre l = some ps := by
        have := hps
        rwa [List.take_of_length_le (by rw [hn.out]; exact Nat.le_refl _)] at this
      have hbd := cPairs_part pre 2097152 l ps hp.out hps'
      obtain ⟨L, hL⟩ : ∃ L, L = sortP ps := ⟨_, rfl⟩
      have hLl : L.length = ps.length := by rw [hL, sortP_len]
      have hLb : ∀ q ∈ L, q.1.length ≤ 6291456 ∧ q.2.length ≤ 6291456 := fun q hq => by
        have := hbd.2 q ((sortP_perm ps).mem_iff.1 (hL ▸ hq)); omega
      have hjb := join_bd L (by rw [hLl]; have := hbd.1; rw [hn.out] at this; omega) hLb
      have hres' : res = some (joinL (L.map fmtP) [38]) := by
        have := hres.out
        rw [hps'] at this; rw [this, hL]; rfl
      obtain ⟨m, hm⟩ : ∃ m, m = ps.length := ⟨_, rfl⟩
      have hml : m ≤ 2097153 := by have := hbd.1; rw [hn.out] at this; omega
      have HR : Hid (wr.ownsRow w1.heap.size 48 2 u8 m (cellsP L) ∧ Below w1.heap.size w1 wr ∧ L.length = m ∧ (∀ q ∈ L, q.1.length ≤ 6291456 ∧ q.2.length ≤ 6291456) ∧ (joinL (L.map fmtP) [38]).length ≤ 35184372088832 ∧ res = some (joinL (L.map fmtP) [38])) := ⟨by rw [hm, hL]; exact hrow, hB, by rw [hLl, hm], hLb, hjb, hres'⟩
      obtain ⟨u, cu, rfl⟩ : ∃ u c, u8 = Value.slice u m c := by
        rcases HR.out.1.2 with ⟨h, h0⟩ | ⟨g, cp, cur, h, _⟩
        · exact ⟨none, 0, by rw [h, h0]⟩
        · exact ⟨_, _, h⟩
      clear hps hps' hbd hL hLl hLb hjb hres' hm hrow hz0 hB hk hk2
      go_wp2
      go_loopw [16, 17] (fun s v wx => ∃ (j : Nat), v = .int .i64 j ∧ s = .string (JN L j) ∧ j ≤ m ∧ wx.ownsRow w1.heap.size 48 2 (.slice u m cu) m (cellsP L) ∧ Below w1.heap.size w1 wx)
        (fun _ v _ => match v with | .int _ j => m - j.toNat | _ => 0)
      case atStart => exact ⟨0, rfl, rfl, Nat.zero_le _, HR.out.1, HR.out.2.1⟩
      case round =>
        obtain ⟨j, rfl, rfl, hjm, hro, hB2⟩ := hrel
        by_cases hj : j < m
        · obtain ⟨g, o2, hu⟩ : ∃ g o2, u = some ⟨g, o2, none⟩ := by
            rcases hro.2 with ⟨h, h0⟩ | ⟨g, cp, cur, h, _⟩
            · omega
            · cases h; exact ⟨g, 0, rfl⟩
          have ho2 : o2 = 0 := by
            rcases hro.2 with ⟨h, h0⟩ | ⟨g', cp, cur, h, _⟩
            · omega
            · rw [hu] at h; simp at h; exact h.1.2
          subst ho2
          subst hu
          have hjL : j < L.length := by rw [HR.out.2.2.1]; exact hj
          obtain ⟨q, hq⟩ : ∃ q, q = L.getD j ([], []) := ⟨_, rfl⟩
          have e12 := cellsP_get hjL
          rw [← hq] at e12
          have e1 := (rowG_cell hro e12.1).1
          have e2 := (rowG_cell hro e12.2).1
          have hqm : q ∈ L := by rw [hq, List.getD_eq_getElem?_getD, List.getElem?_eq_getElem hjL]; exact List.getElem_mem _
          have hqs := HR.out.2.2.2.1 q hqm
          have hS := JN_size L j (by omega) HR.out.2.2.2.2.1
          obtain ⟨Q1, hQ1⟩ : ∃ Q : ByteArray, Q = ⟨q.1.toArray⟩ := ⟨_, rfl⟩
          obtain ⟨Q2, hQ2⟩ : ∃ Q : ByteArray, Q = ⟨q.2.toArray⟩ := ⟨_, rfl⟩
          have hs1 : Q1.size ≤ 6291456 := by rw [hQ1]; show q.1.toArray.size ≤ _; rw [List.size_toArray]; exact hqs.1
          have hs2 : Q2.size ≤ 6291456 := by rw [hQ2]; show q.2.toArray.size ≤ _; rw [List.size_toArray]; exact hqs.2
          rw [← hQ1] at e1
          rw [← hQ2] at e2
          have HB2 : Hid (wr.ownsRow w1.heap.size 48 2 (.slice (some ⟨g, 0, none⟩) m cu) m (cellsP L) ∧ Below w1.heap.size w1 wr) := ⟨hro, hB2⟩
          clear hro hB2 e12 hqm hqs
          cases j with
          | zero =>
            have hN := JN_first L hjL
            rw [← hq, ← hQ1, ← hQ2] at hN
            have HN : Hid (JN L 1 = ⟨#[]⟩ ++ Q1 ++ ⟨#[61]⟩ ++ Q2) := hN
            simp only [Nat.zero_mul, Nat.zero_add] at e1 e2
            clear hN hq hQ1 hQ2 hjL
            have hz := JN_zero L
            rw [hz]
            clear hz hS
            go_wp2
            go_quiet (fail)
            go_wp2
            exact ⟨⟨1, by simp, by rw [HN.out], by omega, row_heap HB2.out.1 rfl, below_dn HB2.out.2 _⟩, by simp; omega⟩
          | succ i =>
            have hN := JN_next L (i + 1) hjL (Nat.succ_pos i)
            rw [← hq, ← hQ1, ← hQ2] at hN
            obtain ⟨S, hSd⟩ : ∃ S, S = JN L (i + 1) := ⟨_, rfl⟩
            rw [← hSd] at hN hS
            rw [← hSd]
            have HN : Hid (JN L (i + 1 + 1) = S ++ ⟨#[38]⟩ ++ Q1 ++ ⟨#[61]⟩ ++ Q2) := hN
            clear hN hq hQ1 hQ2 hjL hSd
            go_wp2
            go_quiet (fail)
            go_wp2
            exact ⟨⟨i + 1 + 1, by simp, by rw [HN.out], by omega, row_heap HB2.out.1 rfl, below_dn HB2.out.2 _⟩, by simp; omega⟩
        · have hjm2 : j = m := by omega
          subst hjm2
          have HE : Hid (JN L j = ⟨(joinL (L.map fmtP) [38]).toArray⟩ ∧ Below w1.heap.size w1 wr) := ⟨by rw [← HR.out.2.2.1]; exact JN_all L, hB2⟩
          clear hro hB2
          generalize JN L j = S at *
          go_wp2
          go_ret2
          rw [HR.out.2.2.2.2.2, HE.out.1]
          exact ⟨rfl, HH.out.2.2.trans (HE.out.2.mono HH.out.2.2.size)⟩
end Go.Proofs.YtnohmijdpmelpaaGreat
