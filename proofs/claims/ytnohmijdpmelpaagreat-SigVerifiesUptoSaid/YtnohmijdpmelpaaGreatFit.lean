/- (*claim).fits, walked, and its contract. -/
import Derived.Test.YtnohmijdpmelpaaGreatSgn
import Derived.Test.YtnohmijdpmelpaaGreatRow
import Derived.Maps.Own
import Derived.Maps.Views
import Derived.BigQuiet
import Derived.Deep.QuietTactic
import Derived.WalkSpells
import Derived.Laws.Cover1
import Derived.Test.YtnohmijdpmelpaaGreatPv
set_option maxRecDepth 100000
set_option linter.unusedVariables false
set_option linter.unusedSimpArgs false
namespace Go.Am
open Go Go.RowKit
variable [Tab]
variable {P : Program} {f : FuncId}
/-- a function that reads what is lent, and makes new blocks alone -/
theorem FnOK.of_read {args : List AV} {res : AV} {H : Heap} (hr : pv res = true)
    (h : ∀ (w : World) (G : Gh) (ρ : List Nat) (vs : List Value), vs.length = args.length → (∀ (i : Nat) (c : AV) (v : Value), args[i]? = some c → vs[i]? = some v → VR G w ρ c v) → BR G w ρ H → WI G w →
      Calls P f vs.toArray w fun e w' => ∃ v, e = .returned v ∧ (∀ G w ρ, VR G w ρ res v) ∧ Below w.heap.size w w') : FnOK P f args H res H := by
  intro w G ρ vs hl ha hb hw
  refine (h w G ρ vs hl (fun i c v e1 e2 => (ha i c v e1 e2).1) hb hw).mono ?_
  rintro e w' ⟨v, rfl, hv, hB⟩
  refine ⟨v, G, ρ, rfl, Below.tr hB hw, Below.wi hB hw, rfl, ⟨hb.len, fun id b blk j c h1 h2 h3 => ?_⟩, hv _ _ _, SpV_nr (pv_nr hr)⟩
  obtain ⟨k1, v, k2, k3, k4⟩ := hb.cell id b blk j c h1 h2 h3
  refine ⟨k1, v, ?_, k3.keep (Below.tr hB hw).keeps, k4⟩
  rw [(Below.at_ hB (o := j) (hw.lt (b := b) (o := j) (by rw [k1]; simp))).1]
  exact k2
end Go.Am
namespace Go.Proofs.YtnohmijdpmelpaaGreat
open Go Go.Am Go.RowKit Go.Maps
/-- pairs at a place -/
structure HdC (w : World) (base : Option (Nat × Nat)) (cap : Nat) (l : List Hd) : Prop where
  le : l.length ≤ cap
  no : base = none → cap = 0
  at_ : ∀ b o, base = some (b, o) → ∀ i, i < l.length → w.cell? (mkA b (o + i * 2)) = some (.string ⟨(l.getD i ([], [])).1.toArray⟩) ∧ w.cell? (mkA b (o + i * 2 + 1)) = some (.string ⟨(l.getD i ([], [])).2.toArray⟩)
theorem HdC.keep {w w' : World} {base : Option (Nat × Nat)} {cap : Nat} {l : List Hd} (h : HdC w base cap l) (hb : ∀ (a : Nat × Nat) (v : Value), w.cell? (mkA a.1 a.2) = some v → w'.cell? (mkA a.1 a.2) = some v) : HdC w' base cap l :=
  ⟨h.le, h.no, fun b o e i hi => ⟨hb (b, _) _ (h.at_ b o e i hi).1, hb (b, _) _ (h.at_ b o e i hi).2⟩⟩
def StrAt (w : World) (b o : Nat) : Prop := ∃ s, w.cell? (mkA b o) = some (.string s)
theorem hd_arg {w : World} {base : Option (Nat × Nat)} {cap : Nat} {l : List Hd} (h : HdC w base cap l) : VR (Gx w (StrAt w)) w [] (.sl 2 l.length (hdEl l) false) (.slice (base.map fun p => mkA p.1 p.2) l.length cap) := by
  refine .sl _ _ _ _ _ base cap (fun q => .string ⟨(if q % 2 = 0 then (l.getD (q / 2) ([], [])).1 else (l.getD (q / 2) ([], [])).2).toArray⟩) h.le h.no (fun i hi => rfl) (fun b o e q hq => ?_) (fun i j c hi hj => ?_)
  · have h1 := h.at_ b o e (q / 2) (by omega)
    have key : w.cell? (mkA b (o + q)) = some (.string ⟨(if q % 2 = 0 then (l.getD (q / 2) ([], [])).1 else (l.getD (q / 2) ([], [])).2).toArray⟩) := by
      rcases Nat.mod_two_eq_zero_or_one q with e2 | e2
      · rw [if_pos e2, show o + q = o + q / 2 * 2 by omega]; exact h1.1
      · rw [if_neg (by omega), show o + q = o + q / 2 * 2 + 1 by omega]; exact h1.2
    exact ⟨Gx_S (World.block_lt_of_cell? _ _ key) ⟨_, key⟩, key⟩
  · match j, hj with
    | 0, hj =>
      simp [AV.cells] at hj
      subst hj
      rw [if_pos (by omega), show (i * 2 + 0) / 2 = i by omega]
      simp only [List.getD_eq_getElem?_getD]
      exact .str ..
    | 1, hj =>
      simp [AV.cells] at hj
      subst hj
      rw [if_neg (by omega), show (i * 2 + 1) / 2 = i by omega]
      simp only [List.getD_eq_getElem?_getD]
      exact .str ..
    | j + 2, hj => simp [AV.cells] at hj
theorem k82 {w : World} {base : Option (Nat × Nat)} {cap : Nat} {l : List Hd} (h : HdC w base cap l) (hl : l.length ≤ 16777216) (nm : List UInt8) :
    Calls Tryz.prog 82 #[.slice (base.map fun p => mkA p.1 p.2) l.length cap, .string ⟨nm.toArray⟩] w fun e w' => e = .returned (.tuple #[.string ⟨((allL l nm).getD 0 []).toArray⟩, .bool (decide (allL l nm ≠ []))]) ∧ Below w.heap.size w w' := by
  have h1 := hd_arg h
  have h0 := fn_kit (get1_ok l nm hl) w (StrAt w) (fun b o u ⟨s, hs⟩ hc => by rw [hs] at hc; cases hc; rfl) [.slice (base.map fun p => mkA p.1 p.2) l.length cap, .string ⟨nm.toArray⟩] rfl (a2 h1 rfl (.str _ _) rfl)
  refine h0.mono ?_
  rintro e w' ⟨u, G', rfl, hr, hB, h3, h4⟩
  obtain ⟨x, y, rfl, hx, hy⟩ := tup2 hr
  rw [hx.str_inv, hy.bool_inv]
  exact ⟨rfl, hB⟩
theorem k83 (s p : List UInt8) (hs : s.length ≤ 16777216) (hp : p.length ≤ 16777216) (w : World) : Calls Tryz.prog 83 #[.string ⟨s.toArray⟩, .string ⟨p.toArray⟩] w fun e w' => e = .returned (.bool (begL s p)) ∧ Below w.heap.size w w' :=
  kit_b (vs := [.string ⟨s.toArray⟩, .string ⟨p.toArray⟩]) (hpre_ok s p hs hp) rfl (fun G w => a2 (.str ..) rfl (.str ..) rfl) w
/-- the map of names: which are in it -/
def HasN {H : Type} (D : DataW H) (l : List (List UInt8)) (k : Nat) : Prop := IsMap D ∧ ∀ s : List UInt8, ∃ c : Nat, c ≤ k ∧ D.atKey (.string s) (.lit (.int .i64 0)) = .lit (.int .i64 c) ∧ (c = 0 ↔ s ∉ l)
theorem HasN.nil {H : Type} : HasN (.map [] : DataW H) [] 0 := ⟨⟨_, rfl⟩, fun s => ⟨0, Nat.le_refl _, rfl, by simp⟩⟩
theorem HasN.put {H : Type} {D : DataW H} {l : List (List UInt8)} {k c : Nat} {s : List UInt8} (h : HasN D l k) (hc : D.atKey (.string s) (.lit (.int .i64 0)) = .lit (.int .i64 c)) : HasN (D.put (.string s) (.lit (.int .i64 (c + 1 : Nat)))) (l ++ [s]) (k + 1) := by
  refine ⟨by obtain ⟨es, rfl⟩ := h.1; exact ⟨_, rfl⟩, fun s' => ?_⟩
  by_cases e : s' = s
  · subst e
    obtain ⟨c0, h1, h2, h3⟩ := h.2 s'
    rw [hc] at h2
    have hcc : c = c0 := by
      simp only [DataW.lit.injEq, Lit.int.injEq, true_and] at h2
      exact Int.ofNat_inj.1 h2
    refine ⟨c + 1, by omega, atKey_put_same h.1 (show WideAt.IsKeyLit (.string s') from trivial) _ _, ?_⟩
    constructor
    · intro h; cases h
    · intro h; exact absurd (List.mem_append_right _ (List.mem_singleton.2 rfl)) h
  · obtain ⟨c0, h1, h2, h3⟩ := h.2 s'
    refine ⟨c0, by omega, ?_, ?_⟩
    · rw [atKey_put_other (by intro e2; cases e2; exact e rfl)]; exact h2
    · rw [h3, List.mem_append, List.mem_singleton]
      exact ⟨fun h => by rintro (h' | h'); exact h h'; exact e h', fun h h' => h (.inl h')⟩
end Go.Proofs.YtnohmijdpmelpaaGreat
set_option maxRecDepth 100000
set_option linter.unusedVariables false
set_option linter.unusedSimpArgs false
set_option linter.unusedSectionVars false
namespace Go.Proofs.YtnohmijdpmelpaaGreat
open Go Go.Am Go.RowKit Go.Maps Go.WideMaps
attribute [local go_sem] Oper.semAt_some
theorem mlaw : Keyed Tryz.prog 9 := string_keyed Tryz.underlying9
theorem mzero (w : World) : (zeroValue 3).run Tryz.prog w = .ok (.int .i64 0) w := by kernel_rfl
/-- the names that have been looked at -/
structure St1 (w wr : World) (hd : List Hd) (ns : List (List UInt8)) (bx : Obj) (k : Nat) : Prop where
  ok : ∀ j, j < k → okN hd ns j
  map : ∃ D, wr.ownsMap Tryz.prog 9 (plainElem (H := Unit) Tryz.prog 3) (w.heap.size + 1) k D ∧ HasN D (ns.take k) k
  box : wr.heap[w.heap.size]? = some bx
  below : Below w.heap.size w wr
  big : w.heap.size + 1 < wr.heap.size
theorem St1.keep {w wr w2 : World} {hd : List Hd} {ns : List (List UInt8)} {bx : Obj} {k : Nat} (h : St1 w wr hd ns bx k) (hB : Below wr.heap.size wr w2) : St1 w w2 hd ns bx k := by
  obtain ⟨D, h1, h2⟩ := h.map
  refine ⟨h.ok, ⟨D, ?_, h2⟩, ?_, h.below.trans (hB.mono (Nat.le_of_lt (by have := h.big; omega))), by have := h.big; have := hB.size; omega⟩
  · exact h1.kept (row := none) ⟨hB.os, hB.tape, hB.output, hB.size, fun i hi _ => hB.block i hi⟩ (by simp)
  · rw [hB.block _ (by have := h.big; omega)]; exact h.box
theorem cellOf {w : World} {b o : Nat} {cs : Array Value} {e : TypeId} {fz : Nat × Nat} {v : Value} (h : w.heap[b]? = some (.cells cs e fz)) (hv : cs[o]? = some v) : w.cell? ⟨b, o, none⟩ = some v := by
  simp [World.cell?, h, hv]
theorem bcellF {w w' : World} {N a b : Nat} {v : Value} (h : w.cell? ⟨a, b, none⟩ = some v) (hN : w.heap.size ≤ N) (h' : Below N w w') : w'.cell? ⟨a, b, none⟩ = some v :=
  (h'.cell (p := ⟨a, b, none⟩) (Nat.lt_of_lt_of_le (World.block_lt_of_cell? _ _ h) hN)).trans h
theorem St1.start (w : World) (hd : List Hd) (ns : List (List UInt8)) (a b c d : Value) : St1 w ((w.alloc (.cells #[a, b, c, d] 25)).alloc (.map #[] 0)) hd ns (.cells #[a, b, c, d] 25 (0, 0)) 0 where
  ok := fun j h => absurd h (Nat.not_lt_zero _)
  map := ⟨.map [], by
    have := World.ownsMap_made (w.alloc (.cells #[a, b, c, d] 25)) Tryz.prog 9 (plainElem (H := Unit) Tryz.prog 3)
    simpa using this, HasN.nil⟩
  box := hp_new _ _ _
  below := ((Below.refl _ _).alloc (Nat.le_refl _) _).alloc (by simp) _
  big := by simp
theorem St1.step {w w2 w3 : World} {hd : List Hd} {ns : List (List UInt8)} {bx : Obj} {k c : Nat} {D : DataW Unit} (h : St1 w w2 hd ns bx k) (hk : k < ns.length) (hok : okN hd ns k) (hD : HasN D (ns.take k) k) (hat : D.atKey (.string (ns.getD k [])) (.lit (.int .i64 0)) = .lit (.int .i64 c))
    (ho : w3.ownsMap Tryz.prog 9 (plainElem (H := Unit) Tryz.prog 3) (w.heap.size + 1) (k + 1) (D.put (.string (ns.getD k [])) (.lit (.int .i64 (c + 1 : Nat))))) (hg : w2.grownBy w3 (some (w.heap.size + 1))) : St1 w w3 hd ns bx (k + 1) where
  ok := fun j hj => by
    rcases Nat.lt_or_ge j k with h1 | h1
    · exact h.ok j h1
    · rw [show j = k by omega]; exact hok
  map := ⟨_, ho, by rw [take_snoc [] hk]; exact hD.put hat⟩
  box := by rw [hg.block _ (by have := h.big; omega) (by simp)]; exact h.box
  below := h.below.trans ⟨hg.os, hg.tape, hg.output, hg.size, fun i hi => hg.block i (Nat.lt_of_lt_of_le hi h.below.size) (by simp; omega)⟩
  big := Nat.lt_of_lt_of_le h.big hg.size
theorem HasN.at_ {H : Type} {D : DataW H} {l : List (List UInt8)} {k : Nat} {s : List UInt8} {c : Int} (h : HasN D l k) (hc : D.atKey (.string s) (.lit (.int .i64 0)) = .lit (.int .i64 c)) : ∃ n : Nat, c = n ∧ n ≤ k ∧ (n = 0 ↔ s ∉ l) := by
  obtain ⟨n, h1, h2, h3⟩ := h.2 s
  rw [hc] at h2
  simp only [DataW.lit.injEq, Lit.int.injEq, true_and] at h2
  exact ⟨n, h2, h1, h3⟩
theorem wf64 {n : Nat} (h : n ≤ 33554432) : (Lit.int .i64 ((n : Int) + 1)).wf = true := by
  simp [Lit.wf, IntKind.min, IntKind.max, IntKind.signed, IntKind.bits]; omega
/-- the headers that have been looked at -/
structure St2 (w wr w5 : World) (hd : List Hd) (ns : List (List UInt8)) (j : Nat) : Prop where
  ok : ∀ i, i < j → amzH hd ns i
  below : Below wr.heap.size wr w5
theorem St2.keep {w wr w5 w6 : World} {hd : List Hd} {ns : List (List UInt8)} {j : Nat} (h : St2 w wr w5 hd ns j) {N : Nat} (hN : w5.heap.size ≤ N) (hB : Below N w5 w6) : St2 w wr w6 hd ns j :=
  ⟨h.ok, h.below.trans (hB.mono (Nat.le_trans h.below.size hN))⟩
theorem St2.alloc {w wr w5 : World} {hd : List Hd} {ns : List (List UInt8)} {j : Nat} (h : St2 w wr w5 hd ns j) (o : Obj) : St2 w wr (w5.alloc o) hd ns j :=
  ⟨h.ok, h.below.alloc h.below.size o⟩
theorem St2.step {w wr w5 : World} {hd : List Hd} {ns : List (List UInt8)} {j : Nat} (h : St2 w wr w5 hd ns j) (ho : amzH hd ns j) : St2 w wr w5 hd ns (j + 1) :=
  ⟨fun i hi => by
    rcases Nat.lt_or_ge i j with h1 | h1
    · exact h.ok i h1
    · rw [show i = j by omega]; exact ho, h.below⟩
theorem look_any {w w6 : World} {hd : List Hd} {ns : List (List UInt8)} {bx : Obj} {k : Nat} {X : ByteArray} {s : List UInt8} (h : St1 w w6 hd ns bx k) (hk : ns.length = k) (hkey : keyOf Tryz.prog 9 (.string X) = some (.string s)) :
    ∃ n : Nat, (Instr.lookup 126 (.map (some (w.heap.size + 1))) (.string X) false).run Tryz.prog w6 = .ok (.int .i64 n) w6 ∧ (n = 0 ↔ s ∉ ns) := by
  obtain ⟨D, hown, hD⟩ := h.map
  obtain ⟨c, hrun, hat, _⟩ := hown.lookup_int mlaw Tryz.underlying126 Tryz.underlying3 (mzero _) hkey
  obtain ⟨n, rfl, _, hz⟩ := hD.at_ hat
  rw [List.take_of_length_le (by omega)] at hz
  exact ⟨n, hrun, hz⟩
theorem nz_of {n : Nat} (h : n ≠ 0) : ((n : Int) == 0) = false := by
  rw [beq_eq_false_iff_ne]; omega
set_option maxHeartbeats 4000000 in
theorem fits_core (w : World) (cb nb no nn ncap hn hcap : Nat) (base : Option (Nat × Nat)) (bn : Option Addr) (ns : List (List UInt8)) (hd : List Hd) (mv tv bv : Value)
    (HL : Hid (ns.length = nn ∧ hd.length = hn ∧ nn ≤ 16777216 ∧ hn ≤ 16777216 ∧ bn = base.map fun p => mkA p.1 p.2)) (hnn : nn ≤ 16777216) (hhn : hn ≤ 16777216)
    (HN : Hid (∀ i, i < nn → w.cell? ⟨nb, no + i, none⟩ = some (.string ⟨(ns.getD i []).toArray⟩))) (HH : Hid (HdC w base hcap hd)) (HV : Hid (∀ p ∈ hd, p.1.length ≤ 1048576)) (HM : Hid (∀ k, (ns.getD k []).length ≤ 16777216))
    (hcb : cb < w.heap.size) (c3 : w.cell? ⟨cb, 3, none⟩ = some (.slice (some ⟨nb, no, none⟩) nn ncap)) :
    Calls Tryz.prog 41 #[.pointer (some ⟨cb, 0, none⟩), .agg #[mv, tv, .slice bn hn hcap, bv]] w fun e w' => e = .returned (.bool (sgnB hd ns)) ∧ Below w.heap.size w w' := by
  have hmm := @run_makeMap Tryz.prog
  go_enter Tryz.func41, Tryz.ntmps41
  go_wp2
  go_loopw [18] (fun i wr => ∃ k : Nat, i = .int .i64 k ∧ k ≤ nn ∧ St1 w wr hd ns (.cells #[mv, tv, .slice bn hn hcap, bv] 25 (0, 0)) k)
    (fun i _ => match i with | .int _ k => nn - k.toNat | _ => 0)
  case atStart => exact ⟨0, rfl, Nat.zero_le _, St1.start ..⟩
  case round =>
    obtain ⟨k, rfl, hk, hst⟩ := hrel
    clear hmm
    by_cases hk2 : k < nn
    · have hkl : k < ns.length := by rw [HL.out.1]; exact hk2
      obtain ⟨X, hX⟩ : ∃ X : ByteArray, X = ⟨(ns.getD k []).toArray⟩ := ⟨_, rfl⟩
      have c4 : wr.cell? ⟨nb, no + k, none⟩ = some (.string X) := by rw [hX]; exact bcellF (HN.out k hk2) (Nat.le_refl _) hst.below
      have c3r : wr.cell? ⟨cb, 3, none⟩ = some (.slice (some ⟨nb, no, none⟩) nn ncap) := bcellF c3 (Nat.le_refl _) hst.below
      have c5 : wr.cell? ⟨w.heap.size, 2, none⟩ = some (.slice bn hn hcap) := cellOf hst.box rfl
      have K0 := k82 (HH.out.keep (w' := wr) fun a v h => (hst.below.cell (p := mkA a.1 a.2) (World.block_lt_of_cell? _ _ h)).trans h) (by rw [HL.out.2.1]; exact hhn) (ns.getD k [])
      rw [← hX, HL.out.2.1, ← HL.out.2.2.2.2] at K0
      obtain ⟨V, hV⟩ : ∃ V : ByteArray, V = ⟨((allL hd (ns.getD k [])).getD 0 []).toArray⟩ := ⟨_, rfl⟩
      rw [← hV] at K0
      have HX : Hid (X = ⟨(ns.getD k []).toArray⟩ ∧ k < ns.length) := ⟨hX, hkl⟩
      have HS : Hid (St1 w wr hd ns (.cells #[mv, tv, .slice bn hn hcap, bv] 25 (0, 0)) k) := hst
      clear hX hkl hst hV
      by_cases hf : allL hd (ns.getD k []) ≠ []
      · rw [decide_eq_true hf] at K0
        have KA : Hid (Calls Tryz.prog 82 #[.slice bn hn hcap, .string X] wr fun e w' => e = .returned (.tuple #[.string V, .bool true]) ∧ Below wr.heap.size wr w') := K0
        have HF : Hid (allL hd (ns.getD k []) ≠ []) := hf
        clear K0 hf
        have HK : Hid (keyOf Tryz.prog 9 (.string X) = some (.string (ns.getD k []))) := by
          show keyOf Tryz.prog 9 (.string X) = some (.string (ns.getD k []))
          have := keyOf_string_mk Tryz.underlying9 (s := X) (by rw [HX.out.1]; unfold maxLen; have := HM.out k; simp only [ByteArray.size, List.size_toArray]; omega)
          rw [this, HX.out.1]
        rcases k with _ | k
        · rw [Nat.add_zero] at c4
          simp only [Int.natCast_zero]
          have HO : Hid (okN hd ns 0) := ⟨fun h => absurd h (Nat.lt_irrefl 0), HF.out⟩
          go_wp2_with first
            | (go_at_call 82; refine KA.out.mono ?_; rintro e w2 ⟨rfl, hB2⟩; have B2 : Hid (St1 w w2 hd ns (.cells #[mv, tv, .slice bn hn hcap, bv] 25 (0, 0)) 0) := HS.out.keep hB2; clear hB2; obtain ⟨D, hown, hD⟩ := B2.out.map; have HD : Hid (HasN D (ns.take 0) 0) := hD; clear hD; obtain ⟨c, hrun, hat, _⟩ := hown.lookup_int mlaw Tryz.underlying126 Tryz.underlying3 (mzero _) HK.out; obtain ⟨n, rfl, hnk, hz⟩ := HD.out.at_ hat; have HZ : Hid ((n = 0 ↔ ns.getD 0 [] ∉ ns.take 0) ∧ D.atKey (.string (ns.getD 0 [])) (.lit (.int .i64 0)) = .lit (.int .i64 n)) := ⟨hz, hat⟩; clear hz hat)
            | (at_mapUpdate; refine wpList_mapUpdate_own _ rfl _ _ _ 126 rfl 9 3 mlaw Tryz.underlying126 _ (w.heap.size + 1) 0 _ rfl hown (by unfold maxLen; omega) _ _ _ rfl rfl HK.out _ [] (plainElem_int Tryz.underlying3 (wf64 (by omega))) ?_)
          intro w3 hown1 hgrow1
          have B3 : Hid (St1 w w3 hd ns (.cells #[mv, tv, .slice bn hn hcap, bv] 25 (0, 0)) (0 + 1)) := B2.out.step HX.out.2 HO.out HD.out HZ.out.2 hown1 hgrow1
          clear hown1 hgrow1 hown hrun HK
          go_wp2
          exact ⟨⟨1, rfl, by omega, B3.out⟩, by simp; omega⟩
        · obtain ⟨Y, hY⟩ : ∃ Y : ByteArray, Y = ⟨(ns.getD k []).toArray⟩ := ⟨_, rfl⟩
          have c6 : wr.cell? ⟨nb, no + k, none⟩ = some (.string Y) := by rw [hY]; exact bcellF (HN.out k (by omega)) (Nat.le_refl _) HS.out.below
          cases hr : ltL (ns.getD k []) (ns.getD (k + 1) []) with
          | false =>
            have hr2 : Op.bytesLess Y.toList X.toList = false := by rw [hY, HX.out.1, tl_mk, tl_mk]; exact hr
            have HR : Hid (sgnB hd ns = false) := sgn_no HX.out.2 fun h => by have := h.1 (by omega); rw [Nat.add_sub_cancel, hr] at this; cases this
            clear hr hY
            go_wp2_with (go_at_call 82; refine KA.out.mono ?_; rintro e w2 ⟨rfl, hB2⟩; have B2 : Hid (St1 w w2 hd ns (.cells #[mv, tv, .slice bn hn hcap, bv] 25 (0, 0)) (k + 1)) := HS.out.keep hB2; have c3s := onecell c3r hB2; have c6s := onecell c6 hB2; clear hB2)
            go_ret
            rw [HR.out]
            exact ⟨rfl, B2.out.below⟩
          | true =>
            have hr2 : Op.bytesLess Y.toList X.toList = true := by rw [hY, HX.out.1, tl_mk, tl_mk]; exact hr
            have HO : Hid (okN hd ns (k + 1)) := ⟨fun h => by rw [Nat.add_sub_cancel]; exact hr, HF.out⟩
            clear hr hY
            go_wp2_with first
              | (go_at_call 82; refine KA.out.mono ?_; rintro e w2 ⟨rfl, hB2⟩; have B2 : Hid (St1 w w2 hd ns (.cells #[mv, tv, .slice bn hn hcap, bv] 25 (0, 0)) (k + 1)) := HS.out.keep hB2; have c3s := onecell c3r hB2; have c6s := onecell c6 hB2; clear hB2; obtain ⟨D, hown, hD⟩ := B2.out.map; have HD : Hid (HasN D (ns.take (k + 1)) (k + 1)) := hD; clear hD; obtain ⟨c, hrun, hat, _⟩ := hown.lookup_int mlaw Tryz.underlying126 Tryz.underlying3 (mzero _) HK.out; obtain ⟨n, rfl, hnk, hz⟩ := HD.out.at_ hat; have HZ : Hid ((n = 0 ↔ ns.getD (k + 1) [] ∉ ns.take (k + 1)) ∧ D.atKey (.string (ns.getD (k + 1) [])) (.lit (.int .i64 0)) = .lit (.int .i64 n)) := ⟨hz, hat⟩; clear hz hat)
              | (at_mapUpdate; refine wpList_mapUpdate_own _ rfl _ _ _ 126 rfl 9 3 mlaw Tryz.underlying126 _ (w.heap.size + 1) (k + 1) _ rfl hown (by unfold maxLen; omega) _ _ _ rfl rfl HK.out _ [] (plainElem_int Tryz.underlying3 (wf64 (by omega))) ?_)
            intro w3 hown1 hgrow1
            have B3 : Hid (St1 w w3 hd ns (.cells #[mv, tv, .slice bn hn hcap, bv] 25 (0, 0)) ((k + 1) + 1)) := B2.out.step HX.out.2 HO.out HD.out HZ.out.2 hown1 hgrow1
            clear hown1 hgrow1 hown hrun c3s c6s hr2 HK
            go_wp2
            exact ⟨⟨k + 1 + 1, by simp, by omega, B3.out⟩, by simp; omega⟩
      · rw [decide_eq_false hf] at K0
        have KA : Hid (Calls Tryz.prog 82 #[.slice bn hn hcap, .string X] wr fun e w' => e = .returned (.tuple #[.string V, .bool false]) ∧ Below wr.heap.size wr w') := K0
        have HR : Hid (sgnB hd ns = false) := sgn_no HX.out.2 fun h => hf h.2
        clear K0 hf
        go_wp2_with (go_at_call 82; refine KA.out.mono ?_; rintro e w2 ⟨rfl, hB2⟩; have B2 : Hid (St1 w w2 hd ns (.cells #[mv, tv, .slice bn hn hcap, bv] 25 (0, 0)) k) := HS.out.keep hB2; clear hB2)
        go_ret
        rw [HR.out]
        exact ⟨rfl, B2.out.below⟩
    · obtain rfl : k = nn := by omega
      have HL2 : Hid (ns.length = k) := HL.out.1
      obtain ⟨w1, hw1⟩ : ∃ x, x = wr := ⟨_, rfl⟩
      subst hw1
      have HS : Hid (St1 w w1 hd ns (.cells #[mv, tv, .slice bn hn hcap, bv] 25 (0, 0)) k) := hst
      have c5 : w1.cell? ⟨w.heap.size, 2, none⟩ = some (.slice bn hn hcap) := cellOf hst.box rfl
      clear hst c3 hcb
      go_wp2
      go_loopw [56] (fun i wr => ∃ j : Nat, i = .int .i64 j ∧ j ≤ hn ∧ St2 w w1 wr hd ns j)
        (fun i _ => match i with | .int _ j => hn - j.toNat | _ => 0)
      case atStart => exact ⟨0, rfl, Nat.zero_le _, ⟨fun i h => absurd h (Nat.not_lt_zero _), Below.refl _ _⟩⟩
      case round =>
        obtain ⟨j, rfl, hj, hs2⟩ := hrel
        clear c5
        have HB : Hid (St2 w w1 wr hd ns j) := hs2
        clear hs2
        by_cases hj2 : j < hn
        · obtain ⟨bb, oo, hbo⟩ : ∃ b o, base = some (b, o) := by
            cases base with
            | none => have := HH.out.no rfl; have := HH.out.le; have := HL.out.2.1; omega
            | some p => exact ⟨p.1, p.2, rfl⟩
          have hbn : bn = some ⟨bb, oo, none⟩ := by rw [HL.out.2.2.2.2, hbo]; rfl
          subst hbn
          have hjl : j < hd.length := by rw [HL.out.2.1]; exact hj2
          obtain ⟨g1, g2⟩ := HH.out.at_ bb oo hbo j hjl
          obtain ⟨p, hp⟩ : ∃ p, p = hd.getD j ([], []) := ⟨_, rfl⟩
          rw [← hp] at g1 g2
          have hpm : p ∈ hd := by rw [hp, List.getD_eq_getElem?_getD, List.getElem?_eq_getElem hjl]; exact List.getElem_mem _
          obtain ⟨X, hX⟩ : ∃ X : ByteArray, X = ⟨p.1.toArray⟩ := ⟨_, rfl⟩
          obtain ⟨U, hU⟩ : ∃ U : ByteArray, U = ⟨p.2.toArray⟩ := ⟨_, rfl⟩
          rw [← hX] at g1
          rw [← hU] at g2
          have B1 := HS.out.below
          have f1 : w1.cell? ⟨bb, oo + j * 2, none⟩ = some (.string X) := bcellF g1 (Nat.le_refl _) B1
          have f2 : w1.cell? ⟨bb, oo + j * 2 + 1, none⟩ = some (.string U) := bcellF g2 (Nat.le_refl _) B1
          have c7 : wr.cell? ⟨bb, oo + j * 2, none⟩ = some (.string X) := bcellF f1 (Nat.le_refl _) HB.out.below
          have c8 : wr.cell? ⟨bb, oo + j * 2 + 1, none⟩ = some (.string U) := bcellF f2 (Nat.le_refl _) HB.out.below
          have K0 : ∀ W, Calls Tryz.prog 83 #[.string X, .string ⟨#[120, 45, 97, 109, 122, 45]⟩] W fun e w' => e = .returned (.bool (begL p.1 amzN)) ∧ Below W.heap.size W w' := by
            rw [hX]; exact fun W => k83 p.1 amzN (by have := HV.out p hpm; omega) (by decide) W
          have HP : Hid (X = ⟨p.1.toArray⟩ ∧ p = hd.getD j ([], []) ∧ j < hd.length ∧ p ∈ hd) := ⟨hX, hp, hjl, hpm⟩
          have HS2 : Hid (St1 w w1 hd ns (.cells #[mv, tv, .slice (some ⟨bb, oo, none⟩) hn hcap, bv] 25 (0, 0)) k) := HS.out
          clear hX hU hp hjl hpm g1 g2 f1 f2 B1 hbo HS HL HH
          cases hbg : begL p.1 amzN with
          | false =>
            have KB : Hid (∀ W, Calls Tryz.prog 83 #[.string X, .string ⟨#[120, 45, 97, 109, 122, 45]⟩] W fun e w' => e = .returned (.bool false) ∧ Below W.heap.size W w') := by rw [hbg] at K0; exact K0
            have HO : Hid (amzH hd ns j) := fun h => by rw [← HP.out.2.1, hbg] at h; cases h
            clear K0 hbg
            go_wp2_with (go_at_call 83; refine (KB.out _).mono ?_; rintro e w6 ⟨rfl, hB6⟩; have B6 : Hid (St2 w w1 w6 hd ns j) := (HB.out.alloc _).keep (Nat.le_refl _) hB6; clear hB6)
            exact ⟨⟨j + 1, by simp, by omega, B6.out.step HO.out⟩, by simp; omega⟩
          | true =>
            have KB : Hid (∀ W, Calls Tryz.prog 83 #[.string X, .string ⟨#[120, 45, 97, 109, 122, 45]⟩] W fun e w' => e = .returned (.bool true) ∧ Below W.heap.size W w') := by rw [hbg] at K0; exact K0
            have HG : Hid (begL p.1 amzN = true) := hbg
            have HK : Hid (keyOf Tryz.prog 9 (.string X) = some (.string p.1)) := by
              show keyOf Tryz.prog 9 (.string X) = some (.string p.1)
              have := keyOf_string_mk Tryz.underlying9 (s := X) (by rw [HP.out.1]; unfold maxLen; have := HV.out p HP.out.2.2.2; simp only [ByteArray.size, List.size_toArray]; omega)
              rw [this, HP.out.1]
            clear K0 hbg
            by_cases hm : p.1 ∈ ns
            · have HO : Hid (amzH hd ns j) := fun h => by rw [← HP.out.2.1]; exact hm
              have HM2 : Hid (p.1 ∈ ns) := hm
              clear hm
              go_wp2_with (go_at_call 83; refine (KB.out _).mono ?_; rintro e w6 ⟨rfl, hB6⟩; have c9 := (newcell hB6).1; have B6 : Hid (St2 w w1 w6 hd ns j) := (HB.out.alloc _).keep (Nat.le_refl _) hB6; clear hB6; obtain ⟨n, hrun, hz⟩ := look_any (HS2.out.keep B6.out.below) HL2.out HK.out; have hn0 : ((n : Int) == 0) = false := nz_of (fun e => (hz.1 e) HM2.out); clear hz)
              exact ⟨⟨j + 1, by simp, by omega, B6.out.step HO.out⟩, by simp; omega⟩
            · have HR : Hid (sgnB hd ns = false) := sgn_amz HP.out.2.2.1 fun h => hm (by have := h (by rw [← HP.out.2.1]; exact HG.out); rwa [← HP.out.2.1] at this)
              have HM2 : Hid (p.1 ∉ ns) := hm
              clear hm
              go_wp2_with (go_at_call 83; refine (KB.out _).mono ?_; rintro e w6 ⟨rfl, hB6⟩; have c9 := (newcell hB6).1; have B6 : Hid (St2 w w1 w6 hd ns j) := (HB.out.alloc _).keep (Nat.le_refl _) hB6; clear hB6; obtain ⟨n, hrun, hz⟩ := look_any (HS2.out.keep B6.out.below) HL2.out HK.out; obtain rfl : n = 0 := hz.2 HM2.out; clear hz)
              go_ret
              rw [HR.out]
              exact ⟨rfl, HS2.out.below.trans (B6.out.below.mono (Nat.le_of_lt (by have := HS2.out.big; omega)))⟩
        · have HR : Hid (sgnB hd ns = decide (hostN ∈ ns)) := sgn_end (fun i hi => HS.out.ok i (by rw [HL2.out] at hi; exact hi)) (fun i hi => HB.out.ok i (by have := HL.out.2.1; omega))
          have HK : Hid (keyOf Tryz.prog 9 (.string ⟨#[104, 111, 115, 116]⟩) = some (.string hostN)) := by
            show keyOf Tryz.prog 9 (.string ⟨#[104, 111, 115, 116]⟩) = some (.string hostN)
            exact keyOf_string_mk Tryz.underlying9 (s := ⟨#[104, 111, 115, 116]⟩) (by decide)
          obtain ⟨n, hrun, hz⟩ := look_any (HS.out.keep HB.out.below) HL2.out HK.out
          have HW : Hid (Below w.heap.size w wr) := HS.out.below.trans (HB.out.below.mono (Nat.le_of_lt (by have := HS.out.big; omega)))
          by_cases hm : hostN ∈ ns
          · have hn0 : 0 < n := Nat.pos_of_ne_zero fun e => (hz.1 e) hm
            have HR2 : Hid (sgnB hd ns = true) := by rw [HR.out]; exact decide_eq_true hm
            clear hz hm HK
            go_wp2
            go_ret
            rw [HR2.out]
            exact ⟨by first | rfl | simp [hn0], HW.out⟩
          · obtain rfl : n = 0 := hz.2 hm
            have HR2 : Hid (sgnB hd ns = false) := by rw [HR.out]; exact decide_eq_false hm
            clear hz hm HK
            go_wp2
            go_ret
            rw [HR2.out]
            exact ⟨by first | rfl | simp, HW.out⟩
end Go.Proofs.YtnohmijdpmelpaaGreat
set_option maxRecDepth 100000
set_option linter.unusedVariables false
set_option linter.unusedSimpArgs false
namespace Go.Proofs.YtnohmijdpmelpaaGreat
open Go Go.Am Go.RowKit
set_option maxHeartbeats 400000 in
theorem fits_ok (m t : List UInt8) (hd : List Hd) (body cred date sig : List UInt8) (ns : List (List UInt8)) (exp : Nat) (q : Bool) (pay : List UInt8) (h0 : 0 < ns.length) (hn : ns.length ≤ 4194304) (hm : ∀ x ∈ ns, x.length ≤ 4194304) (hv : m.length + t.length + hdW hd + body.length ≤ 1048576) :
    FnOK Tryz.prog 41 [.ptr 0 0, .agg [.str m, .str t, .sl 2 hd.length (hdEl hd) false, .bs body false]] [clB cred date sig ns exp q pay] (.bool (sgnB hd ns)) [clB cred date sig ns exp q pay] := by
  refine FnOK.of_read rfl fun w G ρ vs hl ha hb hw => ?_
  obtain ⟨v0, v1, rfl⟩ : ∃ v0 v1, vs = [v0, v1] := by
    match vs, hl with
    | [v0, v1], _ => exact ⟨v0, v1, rfl⟩
  obtain ⟨cb, hr, rfl⟩ := (ha 0 _ v0 rfl rfl).ptr_inv
  obtain ⟨cs, rfl, hcl, hcv⟩ := (ha 1 _ v1 rfl rfl).agg_inv
  obtain ⟨mv, tv, hv2, bv, rfl⟩ : ∃ a b c d, cs = [a, b, c, d] := by
    match cs, hcl with
    | [a, b, c, d], _ => exact ⟨a, b, c, d, rfl⟩
  have hh := hcv 2 _ hv2 rfl rfl
  obtain ⟨hbase, hcap, hvs, rfl, e1, e2, e3, e4, e5⟩ := hh.sl_inv
  obtain ⟨_, nv, c3, hnv, _⟩ := hb.cell 0 cb _ 3 _ hr rfl rfl
  obtain ⟨nbase, ncap, nvs, rfl, n1, n2, n3, n4, n5⟩ := hnv.sl_inv
  obtain ⟨nb, no, rfl⟩ : ∃ b o, nbase = some (b, o) := by
    cases nbase with
    | none => have := n2 rfl; omega
    | some p => exact ⟨p.1, p.2, rfl⟩
  have hlen := hdW_len hd
  have hN : ∀ i, i < ns.length → w.cell? ⟨nb, no + i, none⟩ = some (.string ⟨(ns.getD i []).toArray⟩) := by
    intro i hi
    have h1 := n4 nb no rfl i (by omega)
    have h2 := n5 i 0 (.str (ns.getD i [])) hi rfl
    rw [Nat.mul_one, Nat.add_zero] at h2
    rw [← h2.str_inv]; exact h1.2
  have hH : HdC w hbase hcap hd := by
    refine ⟨e1, e2, fun b o e i hi => ?_⟩
    have c0 := e4 b o e (i * 2) (by omega)
    have c1 := e4 b o e (i * 2 + 1) (by omega)
    have v0 := e5 i 0 (.str (hd.getD i ([], [])).1) hi rfl
    have v1 := e5 i 1 (.str (hd.getD i ([], [])).2) hi rfl
    rw [Nat.add_zero] at v0
    refine ⟨?_, ?_⟩
    · rw [c0.2, v0.str_inv]
    · rw [Nat.add_assoc, c1.2, v1.str_inv]
  have hV : ∀ p ∈ hd, p.1.length ≤ 1048576 := fun p hp => by
    have := sum_mem (fun p : Hd => p.1.length + p.2.length + 1) hd p hp
    unfold hdW at hv; omega
  have hM : ∀ k, (ns.getD k []).length ≤ 16777216 := fun k => by
    have := getD_le hm k
    omega
  obtain ⟨bn, hbn⟩ : ∃ bn, bn = hbase.map fun p => mkA p.1 p.2 := ⟨_, rfl⟩
  rw [← hbn]
  have hL : Hid (ns.length = ns.length ∧ hd.length = hd.length ∧ ns.length ≤ 16777216 ∧ hd.length ≤ 16777216 ∧ bn = hbase.map fun p => mkA p.1 p.2) := ⟨rfl, rfl, by omega, by omega, hbn⟩
  have hcore := fits_core w cb nb no ns.length ncap hd.length hcap hbase bn ns hd mv tv bv hL (by omega) (by omega) hN hH hV hM (World.block_lt_of_cell? _ _ c3) c3
  refine hcore.mono ?_
  rintro e w' ⟨rfl, hB⟩
  exact ⟨_, rfl, fun G w ρ => .bool .., hB⟩
end Go.Proofs.YtnohmijdpmelpaaGreat
namespace Go.Proofs.YtnohmijdpmelpaaGreat
open Go Go.Am
theorem splitL_pos (s : List UInt8) (c : UInt8) : 0 < (splitL s c).length := by unfold splitL; simp
theorem splitL_le (s : List UInt8) (c : UInt8) : ∀ x ∈ splitL s c, x.length ≤ s.length := fun x hx => by
  have h1 := sum_mem (fun p : List UInt8 => p.length + 1) _ x hx
  have h2 := splitL_sum s c
  unfold sgW at h2; omega
end Go.Proofs.YtnohmijdpmelpaaGreat
