/- Order on pairs of texts: what rises, and that there is one rising list. No program in sight. What the canonical text is, in plain lists. Contracts of the machine told to the walk of the kit: what query calls; pairs in memory. -/
import Derived.Test.YtdigohaeakclfaaGreatDoorMa11
import Derived.BigQuiet
import Derived.Deep.QuietTactic
import Derived.WalkSpells
import Derived.StillTailTactics
import Derived.Test.YtdigohaeakclfaaGreatDoorMa10
set_option maxRecDepth 100000
set_option linter.unusedVariables false
set_option linter.unusedSimpArgs false
set_option linter.unusedSectionVars false
namespace Go.Proofs.YtdigohaeakclfaaGreatDoor
open Go Go.Am Go.RowKit
attribute [local go_sem] Oper.semAt_some
theorem cdigit_kit (c : UInt8) (w : World) : Calls Tryz.prog 141 #[.int .u8 c.toNat] w fun e w' => e = .returned (.tuple #[.int .u8 ((hvU c).getD 0 : Nat), .bool (hvU c).isSome]) ∧ Below w.heap.size w w' := by
  refine (fn_kit (cdigit_ok c) w (fun _ _ => False) (fun b o u h => h.elim) [.int .u8 c.toNat] rfl (fun i c x h1 h2 => ?_)).mono ?_
  · match i, h1, h2 with
    | 0, h1, h2 => simp at h1 h2; subst h1; subst h2; exact ⟨.int .., rfl⟩
    | i + 1, h1, _ => simp at h1
  · rintro e w' ⟨u, G', rfl, hr, hB, h3, h4⟩
    cases hr with
    | tup _ _ us hl huv =>
      match us, hl with
      | [u0, u1], _ =>
        have a0 := huv 0 _ u0 rfl rfl
        have a1 := huv 1 _ u1 rfl rfl
        cases a0; cases a1
        exact ⟨rfl, hB⟩
abbrev IsB (B b : Nat) (l : List UInt8) (w : World) : Prop := Lib.IsBuilder 107 5 B b (Lib.byteCells l) w
theorem wbyte (B b : Nat) (l : List UInt8) (c : UInt8) (w : World) (h : IsB B b l w) (hlen : l.length + 1 ≤ 140737488355328) (hBw : B ≤ w.heap.size) :
    Calls Tryz.prog 83 #[.pointer (some ⟨b, 0, none⟩), .int .u8 c.toNat] w fun e w' => e = .returned .nilIface ∧ IsB B b (l ++ [c]) w' ∧ Below B w w' := by
  refine (Any.Builder_WriteByte Tryz.lays167 Tryz.Builder_Extra_B B b (Lib.byteCells l) c.toNat w h (by simpa [Lib.byteCells] using hlen) hBw).mono ?_
  rintro e w' ⟨rfl, h1, h2⟩
  refine ⟨rfl, ?_, h2⟩
  have : Lib.byteCells (l ++ [c]) = Lib.byteCells l ++ [.int .u8 c.toNat] := by simp [Lib.byteCells]
  unfold IsB
  rw [this]; exact .inr h1
theorem own_below {N : Nat} {e : TypeId} {v : Value} {n : Nat} {xs : List Value} {w w' : World} (h : w.ownsRow N e 1 v n xs) (hB : Below w.heap.size w w') : w'.ownsRow N e 1 v n xs := by
  refine ⟨h.1, ?_⟩
  rcases h.2 with h0 | ⟨g, cap, cur, h1, h2, h3, h4⟩
  · exact .inl h0
  · exact .inr ⟨g, cap, cur, h1, h2, (hB.block g (Array.getElem?_eq_some_iff.1 h3).1).trans h3, h4⟩
/-- what a digit tells, told as a number and a bool -/
theorem cdigit_any (c : UInt8) (w : World) : ∃ (d : Int) (k : Bool), Calls Tryz.prog 141 #[.int .u8 c.toNat] w fun e w' => e = .returned (.tuple #[.int .u8 d, .bool k]) ∧ Below w.heap.size w w' := ⟨_, _, cdigit_kit c w⟩
theorem orXY {x y : Nat} (hx : x < 16) (hy : y < 16) : bits .or .u8 ((x : Int) * 16 % 256) (y : Int) = ((UInt8.ofNat (16 * x + y)).toNat : Int) := by
  have : ∀ x y : Fin 16, bits .or .u8 ((x.val : Int) * 16 % 256) (y.val : Int) = ((UInt8.ofNat (16 * x.val + y.val)).toNat : Int) := by decide +kernel
  exact this ⟨x, hx⟩ ⟨y, hy⟩
theorem isB_below {B b : Nat} {l : List UInt8} {w w' : World} (h : IsB B b l w) (hB : Below w.heap.size w w') : IsB B b l w' := by
  rcases h with ⟨h1, v, h2, h3, h4⟩ | ⟨h1, v, h2, h3, h4⟩
  · exact .inl ⟨h1, v, (hB.block b (Array.getElem?_eq_some_iff.1 h2).1).trans h2, own_below h3 hB, h4⟩
  · exact .inr ⟨h1, v, (hB.block b (Array.getElem?_eq_some_iff.1 h2).1).trans h2, own_below h3 hB, h4⟩
theorem isB_new (w : World) : IsB w.heap.size w.heap.size [] (w.alloc (.cells #[.pointer none, .slice none 0 0] 107)) :=
  .inl ⟨Nat.le_refl _, .slice none 0 0, heap_alloc_new w _, World.ownsRow_nil _ _ _ _, by simp [Value.ownBlock]⟩
set_option maxHeartbeats 4000000 in
theorem unesc_core (t : List UInt8) (n : Nat) (hn : t.length = n) (hs : n ≤ 16777214) (w : World) :
    Calls Tryz.prog 102 #[.string ⟨t.toArray⟩] w fun e w' => e = .returned (.tuple #[.string ⟨((unescL t).getD []).toArray⟩, .bool (unescL t).isSome]) ∧ Below w.heap.size w w' := by
  obtain ⟨S, hSd⟩ : ∃ S : ByteArray, S = ⟨t.toArray⟩ := ⟨_, rfl⟩
  have hS : S.size = n := by rw [hSd, ← hn]; rfl
  rw [← hSd]
  have KS : Hid (S = ⟨t.toArray⟩ ∧ t.length = n) := ⟨hSd, hn⟩
  clear hSd hn
  go_enter Tryz.func102, Tryz.ntmps102
  go_wp2
  go_loopw [5] (fun v wr => ∃ (i : Nat) (out : List UInt8), v = .int .i64 i ∧ UsI t i out ∧ IsB w.heap.size w.heap.size out wr ∧ Below w.heap.size w wr)
    (fun v _ => match v with | .int _ i => n - i.toNat | _ => 0)
  case atStart => exact ⟨0, [], rfl, UsI.start t, isB_new w, (Below.refl _ w).alloc (Nat.le_refl _) _⟩
  case round =>
    obtain ⟨i, out, rfl, hU, hI, hB⟩ := hrel
    by_cases hi : i < n
    · have hle := hU.le
      have hsz : w.heap.size ≤ wr.heap.size := hB.size
      have hol : out.length + 1 ≤ 140737488355328 := by have := hU.len; omega
      have at_ : ∀ (j : Nat) (h : j < S.size), S[j]'h = t.getD j 0 := fun j h => by
        have h1 := KS.out.1; subst h1
        rw [List.getD_eq_getElem?_getD, List.getElem?_eq_getElem (show j < t.length from h)]; rfl
      have hiS : i < S.size := by omega
      have hSi := at_ i hiS
      obtain ⟨c, hcc⟩ : ∃ c, c = t.getD i 0 := ⟨_, rfl⟩
      rw [← hcc] at hSi
      by_cases hc : c = 37
      · have h37 : t.getD i 0 = 37 := hcc ▸ hc
        subst hc
        have hSn : (S[i]'hiS).toNat = 37 := by rw [hSi]; rfl
        clear hSi hcc
        by_cases h2 : n ≤ i + 2
        · have hsh := hU.short (by rw [KS.out.2]; exact hi) h37 (by rw [KS.out.2]; exact h2)
          have HD : Hid (unescL t = none ∧ Below w.heap.size w wr) := ⟨hsh, hB⟩
          clear hU hI hB hle hsh at_ h37
          go_wp2
          go_ret2
          rw [HD.out.1]; exact ⟨rfl, HD.out.2⟩
        · have hb1 : i + 1 < S.size := by omega
          have hb2 : i + 2 < S.size := by omega
          have hSa := at_ (i + 1) hb1
          have hSb := at_ (i + 2) hb2
          obtain ⟨a, ha⟩ : ∃ a, a = t.getD (i + 1) 0 := ⟨_, rfl⟩
          obtain ⟨b, hb⟩ : ∃ b, b = t.getD (i + 2) 0 := ⟨_, rfl⟩
          rw [← ha] at hSa
          rw [← hb] at hSb
          have ka := cdigit_kit a wr
          have h2a : i + 1 < n := by omega
          have h2b : i + 2 < n := by omega
          cases ea : hvU a with
          | none =>
            have hbd := hU.bad h37 (by rw [KS.out.2]; exact h2b) (.inl (ha ▸ ea))
            rw [ea] at ka
            have KA : Hid (Calls Tryz.prog 141 #[.int .u8 a.toNat] wr fun e w' => e = .returned (.tuple #[.int .u8 0, .bool false]) ∧ Below wr.heap.size wr w') := ka
            have HD : Hid (unescL t = none ∧ Below w.heap.size w wr ∧ w.heap.size ≤ wr.heap.size) := ⟨hbd, hB, hsz⟩
            clear hU hI hB hle hbd at_ h37 ka ha hb ea h2a h2b hol hsz
            go_wp2_with first
              | (go_at_call 141; refine KA.out.mono ?_; rintro e w1 ⟨rfl, hB1⟩; have HB1 : Hid (Below wr.heap.size wr w1) := hB1; clear hB1 KA)
              | (go_at_call 141; obtain ⟨d, k, hk⟩ := cdigit_any b w1; refine hk.mono ?_; rintro e w2 ⟨rfl, hB2⟩; have HB2 : Hid (Below w1.heap.size w1 w2) := hB2; clear hk hB2)
            go_ret2
            rw [HD.out.1]
            exact ⟨rfl, HD.out.2.1.trans ((HB1.out.trans (HB2.out.mono HB1.out.size)).mono HD.out.2.2)⟩
          | some x =>
            have kb := cdigit_kit b
            rw [ea] at ka
            have KA : Hid (Calls Tryz.prog 141 #[.int .u8 a.toNat] wr fun e w' => e = .returned (.tuple #[.int .u8 x, .bool true]) ∧ Below wr.heap.size wr w') := ka
            cases eb : hvU b with
            | none =>
              have hbd := hU.bad h37 (by rw [KS.out.2]; exact h2b) (.inr (hb ▸ eb))
              rw [eb] at kb
              have KB : Hid (∀ w1, Calls Tryz.prog 141 #[.int .u8 b.toNat] w1 fun e w' => e = .returned (.tuple #[.int .u8 0, .bool false]) ∧ Below w1.heap.size w1 w') := kb
              have HD : Hid (unescL t = none ∧ Below w.heap.size w wr ∧ w.heap.size ≤ wr.heap.size) := ⟨hbd, hB, hsz⟩
              clear hU hI hB hle hbd at_ h37 ka kb ha hb ea eb h2a h2b hol hsz
              go_wp2_with first
                | (go_at_call 141; refine KA.out.mono ?_; rintro e w1 ⟨rfl, hB1⟩; have HB1 : Hid (Below wr.heap.size wr w1) := hB1; clear hB1 KA)
                | (go_at_call 141; refine (KB.out w1).mono ?_; rintro e w2 ⟨rfl, hB2⟩; have HB2 : Hid (Below w1.heap.size w1 w2) := hB2; clear hB2 KB)
              go_ret2
              rw [HD.out.1]
              exact ⟨rfl, HD.out.2.1.trans ((HB1.out.trans (HB2.out.mono HB1.out.size)).mono HD.out.2.2)⟩
            | some y =>
              have hnx := hU.three h37 (by rw [KS.out.2]; exact h2b) (ha ▸ ea) (hb ▸ eb)
              rw [eb] at kb
              have hx16 := hvU_lt ea
              have hy16 := hvU_lt eb
              have KB : Hid (∀ w1, Calls Tryz.prog 141 #[.int .u8 b.toNat] w1 fun e w' => e = .returned (.tuple #[.int .u8 y, .bool true]) ∧ Below w1.heap.size w1 w') := kb
              have HD : Hid (UsI t (i + 3) (out ++ [UInt8.ofNat (16 * x + y)]) ∧ Below w.heap.size w wr ∧ w.heap.size ≤ wr.heap.size ∧ IsB w.heap.size w.heap.size out wr ∧ out.length + 1 ≤ 140737488355328 ∧ x < 16 ∧ y < 16) := ⟨hnx, hB, hsz, hI, hol, hx16, hy16⟩
              clear hU hI hB hle hnx at_ h37 ka kb ha hb ea eb h2a h2b hol hsz hx16 hy16
              go_wp2_with first
                | (go_at_call 141; refine KA.out.mono ?_; rintro e w1 ⟨rfl, hB1⟩; have HB1 : Hid (Below wr.heap.size wr w1) := hB1; clear hB1 KA)
                | (go_at_call 141; refine (KB.out w1).mono ?_; rintro e w2 ⟨rfl, hB2⟩; have HB2 : Hid (Below w1.heap.size w1 w2) := hB2; clear hB2 KB)
                | (go_at_call 83; rw [orXY HD.out.2.2.2.2.2.1 HD.out.2.2.2.2.2.2]; refine (wbyte w.heap.size w.heap.size out _ w2 (isB_below (isB_below HD.out.2.2.2.1 HB1.out) HB2.out) HD.out.2.2.2.2.1 (Nat.le_trans HD.out.2.2.1 (Nat.le_trans HB1.out.size HB2.out.size))).mono ?_; rintro e w3 ⟨rfl, hI3, hB3⟩; have HB3 : Hid (Below w.heap.size w2 w3 ∧ IsB w.heap.size w.heap.size (out ++ [UInt8.ofNat (16 * x + y)]) w3) := ⟨hB3, hI3⟩; clear hB3 hI3)
              refine ⟨⟨i + 3, out ++ [UInt8.ofNat (16 * x + y)], ?_, HD.out.1, HB3.out.2, ?_⟩, ?_⟩
              · simp; try omega
              · exact (HD.out.2.1.trans ((HB1.out.trans (HB2.out.mono HB1.out.size)).mono HD.out.2.2.1)).trans HB3.out.1
              · simp; omega
      · have hcne : ((c.toNat : Int) != 37) = true := by
          rw [bne_iff_ne]; intro e; exact hc (UInt8.toNat_inj.1 (Int.ofNat_inj.1 e))
        have HD : Hid (UsI t i out ∧ IsB w.heap.size w.heap.size out wr ∧ Below w.heap.size w wr ∧ c = t.getD i 0 ∧ c ≠ 37) := ⟨hU, hI, hB, hcc, hc⟩
        clear hU hI hB hle at_ hcc hc
        go_wp2_with (go_at_call 83; refine (wbyte w.heap.size w.heap.size out c wr HD.out.2.1 hol hsz).mono ?_; rintro e w1 ⟨rfl, hI1, hB1⟩)
        obtain ⟨d1, d2, d3, d4, d5⟩ := HD.out
        refine ⟨⟨i + 1, out ++ [c], by simp, ?_, hI1, d3.trans (hB1.mono (Nat.le_refl _))⟩, by simp; omega⟩
        rw [d4] at d5 ⊢
        exact d1.one (by rw [KS.out.2]; exact hi) d5
    · have hin : i = n := by
        have := hU.le; rw [KS.out.2] at this; omega
      subst hin
      have hdone := hU.done (by rw [KS.out.2]; exact Nat.le_refl _)
      have hsz : w.heap.size ≤ wr.heap.size := hB.size
      have HD : Hid (unescL t = some out ∧ IsB w.heap.size w.heap.size out wr ∧ Below w.heap.size w wr) := ⟨hdone, hI, hB⟩
      clear hU hI hB hdone
      go_wp2_with (go_at_call 71; refine (Tryz.Builder_String_any w.heap.size w.heap.size out wr HD.out.2.1 hsz).mono ?_; rintro e w1 ⟨rfl, hB1⟩)
      go_ret2
      rw [HD.out.1]
      exact ⟨rfl, HD.out.2.2.trans hB1⟩
end Go.Proofs.YtdigohaeakclfaaGreatDoor
set_option maxRecDepth 100000
set_option linter.unusedVariables false
namespace Go.Proofs.YtdigohaeakclfaaGreatDoor
open Go Go.Am Go.RowKit
theorem cunescF (s : List UInt8) (hs : s.length ≤ 16777214) : FnOK Tryz.prog 102 [.str s] [] (.tup [.str ((unescL s).getD []), .bool (unescL s).isSome]) [] := by
  refine FnOK.of_below rfl fun w G vs hl ha hw => ?_
  obtain ⟨v0, rfl⟩ : ∃ v0, vs = [v0] := by
    match vs, hl with
    | [v0], _ => exact ⟨v0, rfl⟩
  have h0 := (ha 0 _ v0 rfl rfl).str_inv
  subst h0
  refine (unesc_core s s.length rfl hs w).mono ?_
  rintro e w' ⟨rfl, hB⟩
  refine ⟨_, rfl, fun G w => .tup _ _ [_, _] rfl fun q c v e1 e2 => ?_, hB⟩
  match q, e1, e2 with
  | 0, e1, e2 => simp at e1 e2; subst e1; subst e2; exact .str ..
  | 1, e1, e2 => simp at e1 e2; subst e1; subst e2; exact .bool ..
  | q + 2, e1, _ => simp at e1
end Go.Proofs.YtdigohaeakclfaaGreatDoor
set_option maxRecDepth 100000
namespace Go.Proofs.YtdigohaeakclfaaGreatDoor
open Go Go.Am Go.RowKit
abbrev HEX : ByteArray := ⟨#[48, 49, 50, 51, 52, 53, 54, 55, 56, 57, 65, 66, 67, 68, 69, 70]⟩
theorem hx_at : ∀ x : Fin 16, HEX.extract x.val (x.val + 1) = (⟨#[HXU.getD x.val 0]⟩ : ByteArray) := by decide +kernel
theorem hx_and (c : UInt8) : bits .and .u8 (c.toNat : Int) 15 = ((c.toNat % 16 : Nat) : Int) := by
  have : ∀ c : Fin 256, bits .and .u8 (c.val : Int) 15 = ((c.val % 16 : Nat) : Int) := by decide +kernel
  exact this ⟨c.toNat, c.toNat_lt⟩
theorem hx_facts (c : UInt8) : 0 ≤ IntKind.u8.wrap ((c.toNat : Int) / 16 + 1) ∧ IntKind.u8.wrap ((c.toNat : Int) / 16 + 1) ≤ 16 ∧ 0 ≤ (c.toNat : Int) / 16 ∧ (c.toNat : Int) / 16 ≤ IntKind.u8.wrap ((c.toNat : Int) / 16 + 1) := by
  have := c.toNat_lt
  have e : IntKind.u8.wrap ((c.toNat : Int) / 16 + 1) = (c.toNat : Int) / 16 + 1 := by simp [IntKind.wrap, IntKind.bits, IntKind.signed]; omega
  rw [e]; omega
theorem hx_facts2 (c : UInt8) : 0 ≤ IntKind.u8.wrap (bits .and .u8 (c.toNat : Int) 15 + 1) ∧ IntKind.u8.wrap (bits .and .u8 (c.toNat : Int) 15 + 1) ≤ 16 ∧ 0 ≤ bits .and .u8 (c.toNat : Int) 15 ∧ bits .and .u8 (c.toNat : Int) 15 ≤ IntKind.u8.wrap (bits .and .u8 (c.toNat : Int) 15 + 1) := by
  rw [hx_and c]
  have e : IntKind.u8.wrap (((c.toNat % 16 : Nat) : Int) + 1) = ((c.toNat % 16 : Nat) : Int) + 1 := by simp [IntKind.wrap, IntKind.bits, IntKind.signed]; omega
  rw [e]; omega
theorem hx_n1 (c : UInt8) : ¬ 9223372036854775807 < 1 + ((IntKind.u8.wrap ((c.toNat : Int) / 16 + 1)).toNat - ((c.toNat : Int) / 16).toNat) := by
  have := hx_facts c; omega
theorem hx_n2 (c : UInt8) : ¬ 9223372036854775807 < 1 + ((IntKind.u8.wrap ((c.toNat : Int) / 16 + 1)).toNat - ((c.toNat : Int) / 16).toNat) + ((IntKind.u8.wrap (bits .and .u8 (c.toNat : Int) 15 + 1)).toNat - (bits .and .u8 (c.toNat : Int) 15).toNat) := by
  have := hx_facts c; have := hx_facts2 c; omega
theorem hx_e1 (c : UInt8) : (⟨#[48, 49, 50, 51, 52, 53, 54, 55, 56, 57, 65, 66, 67, 68, 69, 70]⟩ : ByteArray).extract ((c.toNat : Int) / 16).toNat (IntKind.u8.wrap ((c.toNat : Int) / 16 + 1)).toNat = ⟨#[HXU.getD (c.toNat / 16) 0]⟩ := by
  have hc := c.toNat_lt
  have e : IntKind.u8.wrap ((c.toNat : Int) / 16 + 1) = (c.toNat : Int) / 16 + 1 := by simp [IntKind.wrap, IntKind.bits, IntKind.signed]; omega
  have h2 := hx_at ⟨c.toNat / 16, by omega⟩
  have e1 : ((c.toNat : Int) / 16).toNat = c.toNat / 16 := by omega
  have e2 : ((c.toNat : Int) / 16 + 1).toNat = c.toNat / 16 + 1 := by omega
  rw [e, e1, e2]; exact h2
theorem hx_e2 (c : UInt8) : (⟨#[48, 49, 50, 51, 52, 53, 54, 55, 56, 57, 65, 66, 67, 68, 69, 70]⟩ : ByteArray).extract (bits .and .u8 (c.toNat : Int) 15).toNat (IntKind.u8.wrap (bits .and .u8 (c.toNat : Int) 15 + 1)).toNat = ⟨#[HXU.getD (c.toNat % 16) 0]⟩ := by
  rw [hx_and c]
  have e : IntKind.u8.wrap (((c.toNat % 16 : Nat) : Int) + 1) = ((c.toNat % 16 : Nat) : Int) + 1 := by simp [IntKind.wrap, IntKind.bits, IntKind.signed]; omega
  have h2 := hx_at ⟨c.toNat % 16, by omega⟩
  have e2 : (((c.toNat % 16 : Nat) : Int) + 1).toNat = c.toNat % 16 + 1 := by omega
  rw [e, Int.toNat_natCast, e2]; exact h2
theorem cat3 (a b c : UInt8) : ((⟨#[a]⟩ : ByteArray) ++ ⟨#[b]⟩ ++ ⟨#[c]⟩) = ⟨[a, b, c].toArray⟩ := by
  apply ByteArray.ext
  simp [ByteArray.data_append]
theorem below_drew {B : Nat} {w W : World} (h : Below B w W) : Below B w W.drew := ⟨h.os, h.tape, h.output, h.size, h.block⟩
end Go.Proofs.YtdigohaeakclfaaGreatDoor
set_option maxRecDepth 100000
set_option linter.unusedVariables false
set_option linter.unusedSimpArgs false
set_option linter.unusedSectionVars false
namespace Go.Proofs.YtdigohaeakclfaaGreatDoor
open Go Go.Am Go.RowKit
attribute [local go_sem] Oper.semAt_some
theorem letter_kit (c : UInt8) (w : World) : Calls Tryz.prog 81 #[.int .u8 c.toNat] w fun e w' => e = .returned (.bool (alnum c)) ∧ Below w.heap.size w w' := by
  refine (fn_kit (letter_ok c) w (fun _ _ => False) (fun b o u h => h.elim) [.int .u8 c.toNat] rfl (fun i c x h1 h2 => ?_)).mono ?_
  · match i, h1, h2 with
    | 0, h1, h2 => simp at h1 h2; subst h1; subst h2; exact ⟨.int .., rfl⟩
    | i + 1, h1, _ => simp at h1
  · rintro e w' ⟨u, G', rfl, hr, hB, h3, h4⟩
    cases hr
    exact ⟨rfl, hB⟩
theorem wstr (B b : Nat) (l : List UInt8) (x : List UInt8) (w : World) (h : IsB B b l w) (hlen : l.length + x.length ≤ 140737488355328) (hBw : B ≤ w.heap.size) :
    Calls Tryz.prog 70 #[.pointer (some ⟨b, 0, none⟩), .string ⟨x.toArray⟩] w fun e w' => e = .returned (.tuple #[.int .i64 x.length, .nilIface]) ∧ IsB B b (l ++ x) w' ∧ Below B w w' := by
  refine (Any.Builder_WriteString Tryz.lays166 Tryz.Builder_Extra_B B b (Lib.byteCells l) ⟨x.toArray⟩ w h (by simpa [Lib.byteCells, ByteArray.size] using hlen) hBw).mono ?_
  rintro e w' ⟨rfl, h1, h2⟩
  refine ⟨rfl, ?_, h2⟩
  have : Lib.byteCells (l ++ x) = Lib.byteCells l ++ Lib.strCells ⟨x.toArray⟩ := by simp [Lib.byteCells, Lib.strCells]
  unfold IsB
  rw [this]; exact .inr h1
theorem idx_five (c : UInt8) : (Lib.indexByte ([45, 46, 95, 126] : List UInt8) c = -1 ∧ ([45, 46, 95, 126] : List UInt8).contains c = false) ∨ ((0 ≤ Lib.indexByte ([45, 46, 95, 126] : List UInt8) c ∧ Lib.indexByte ([45, 46, 95, 126] : List UInt8) c ≤ 3) ∧ ([45, 46, 95, 126] : List UInt8).contains c = true) := by
  have : ∀ c : Fin 256, (Lib.indexByte ([45, 46, 95, 126] : List UInt8) (UInt8.ofNat c.val) = -1 ∧ ([45, 46, 95, 126] : List UInt8).contains (UInt8.ofNat c.val) = false) ∨ ((0 ≤ Lib.indexByte ([45, 46, 95, 126] : List UInt8) (UInt8.ofNat c.val) ∧ Lib.indexByte ([45, 46, 95, 126] : List UInt8) (UInt8.ofNat c.val) ≤ 3) ∧ ([45, 46, 95, 126] : List UInt8).contains (UInt8.ofNat c.val) = true) := by decide +kernel
  have h := this ⟨c.toNat, c.toNat_lt⟩
  simpa using h
set_option maxHeartbeats 4000000 in
theorem esc_core (t : List UInt8) (sl : Bool) (n : Nat) (hn : t.length = n) (hs : n ≤ 16777216) (w : World) :
    Calls Tryz.prog 40 #[.string ⟨t.toArray⟩, .bool sl] w fun e w' => e = .returned (.string ⟨(escL t sl).toArray⟩) ∧ Below w.heap.size w w' := by
  obtain ⟨S, hSd⟩ : ∃ S : ByteArray, S = ⟨t.toArray⟩ := ⟨_, rfl⟩
  have hS : S.size = n := by rw [hSd, ← hn]; rfl
  rw [← hSd]
  have KS : Hid (S = ⟨t.toArray⟩ ∧ t.length = n) := ⟨hSd, hn⟩
  clear hSd hn
  go_enter Tryz.func40, Tryz.ntmps40
  go_wp2
  go_loopw [10] (fun v wr => ∃ (i : Nat), v = .int .i64 i ∧ i ≤ n ∧ IsB w.heap.size w.heap.size (escL (t.take i) sl) wr ∧ Below w.heap.size w wr)
    (fun v _ => match v with | .int _ i => n - i.toNat | _ => 0)
  case atStart => exact ⟨0, rfl, Nat.zero_le _, isB_new w, (Below.refl _ w).alloc (Nat.le_refl _) _⟩
  case round =>
    obtain ⟨i, rfl, hin, hI, hB⟩ := hrel
    by_cases hi : i < n
    · have hsz : w.heap.size ≤ wr.heap.size := hB.size
      have hiS : i < S.size := by omega
      have at_ : ∀ (j : Nat) (h : j < S.size), S[j]'h = t.getD j 0 := fun j h => by
        have h1 := KS.out.1; subst h1
        rw [List.getD_eq_getElem?_getD, List.getElem?_eq_getElem (show j < t.length from h)]; rfl
      have hSi := at_ i hiS
      obtain ⟨c, hcc⟩ : ∃ c, c = t.getD i 0 := ⟨_, rfl⟩
      rw [← hcc] at hSi
      have hel := escL_len sl (t.take i)
      rw [List.length_take] at hel
      have hst : escL (t.take (i + 1)) sl = escL (t.take i) sl ++ escB sl c := by rw [hcc]; exact esc_step (by rw [KS.out.2]; exact hi)
      have kl := letter_kit c
      cases hal : alnum c with
      | true =>
        rw [hal] at kl
        have hsf : escB sl c = [c] := esc_safe (by unfold safe; rw [hal]; rfl)
        rw [hsf] at hst
        have KL : Hid (∀ w, Calls Tryz.prog 81 #[.int .u8 c.toNat] w fun e w' => e = .returned (.bool true) ∧ Below w.heap.size w w') := kl
        have HD : Hid (escL (t.take (i + 1)) sl = escL (t.take i) sl ++ [c] ∧ IsB w.heap.size w.heap.size (escL (t.take i) sl) wr ∧ Below w.heap.size w wr ∧ w.heap.size ≤ wr.heap.size ∧ (escL (t.take i) sl).length + 1 ≤ 140737488355328) := ⟨hst, hI, hB, hsz, by omega⟩
        clear hst hI hB hsz hel kl hsf hal hcc at_
        go_wp2_with first
          | (go_at_call 81; refine (KL.out wr).mono ?_; rintro e w1 ⟨rfl, hB1⟩; have HB1 : Hid (Below wr.heap.size wr w1) := hB1; clear hB1 KL)
          | (go_at_call 83; refine (wbyte w.heap.size w.heap.size _ c w1 (isB_below HD.out.2.1 HB1.out) HD.out.2.2.2.2 (Nat.le_trans HD.out.2.2.2.1 HB1.out.size)).mono ?_; rintro e w2 ⟨rfl, hI2, hB2⟩; have HB2 : Hid (IsB w.heap.size w.heap.size (escL (t.take i) sl ++ [c]) w2 ∧ Below w.heap.size w1 w2) := ⟨hI2, hB2⟩; clear hI2 hB2)
        refine ⟨⟨i + 1, by simp, by omega, ?_, ?_⟩, by simp; omega⟩
        · rw [HD.out.1]; exact HB2.out.1
        · exact (HD.out.2.2.1.trans (HB1.out.mono HD.out.2.2.2.1)).trans HB2.out.2
      | false =>
        rw [hal] at kl
        have KL : Hid (∀ w, Calls Tryz.prog 81 #[.int .u8 c.toNat] w fun e w' => e = .returned (.bool false) ∧ Below w.heap.size w w') := kl
        obtain ⟨z, hz⟩ : ∃ z, z = Lib.indexByte ([45, 46, 95, 126] : List UInt8) c := ⟨_, rfl⟩
        have hz5 := idx_five c
        rw [← hz] at hz5
        have KI : Hid (∀ w, Calls Tryz.prog 82 #[.string ⟨#[45, 46, 95, 126]⟩, .int .u8 c.toNat] w fun e w' => e = .returned (.int .i64 z) ∧ w' = w) := fun w => by
          have h := Tryz.strings_IndexByte ⟨#[45, 46, 95, 126]⟩ c.toNat w
          have e : ((c.toNat : Int).toNat).toUInt8 = c := by simp
          rw [e] at h
          rw [hz]; exact h
        clear hz
        by_cases hsf0 : safe sl c = true
        · have hsf : escB sl c = [c] := esc_safe hsf0
          rw [hsf] at hst
          have HD : Hid (escL (t.take (i + 1)) sl = escL (t.take i) sl ++ [c] ∧ IsB w.heap.size w.heap.size (escL (t.take i) sl) wr ∧ Below w.heap.size w wr ∧ w.heap.size ≤ wr.heap.size ∧ (escL (t.take i) sl).length + 1 ≤ 140737488355328) := ⟨hst, hI, hB, hsz, by omega⟩
          have hdis : z = 0 ∨ z = 1 ∨ z = 2 ∨ z = 3 ∨ (z = -1 ∧ sl = true ∧ c = 47) := by
            unfold safe at hsf0
            rw [hal] at hsf0
            rcases hz5 with ⟨h1, h2⟩ | ⟨h1, h2⟩
            · rw [h2] at hsf0
              simp at hsf0
              exact .inr (.inr (.inr (.inr ⟨h1, hsf0.1, UInt8.toNat_inj.1 hsf0.2⟩)))
            · omega
          clear hst hI hB hsz hel kl hsf hsf0 hz5 hal hcc at_
          have fin : ∀ (w1 w2 : World), Hid (Below wr.heap.size wr w1) → Hid (IsB w.heap.size w.heap.size (escL (t.take i) sl ++ [c]) w2 ∧ Below w.heap.size w1 w2) → IsB w.heap.size w.heap.size (escL (t.take (i + 1)) sl) w2 ∧ Below w.heap.size w w2 := fun w1 w2 HB1 HB2 => by
            refine ⟨?_, (HD.out.2.2.1.trans (HB1.out.mono HD.out.2.2.2.1)).trans HB2.out.2⟩
            rw [HD.out.1]; exact HB2.out.1
          have HF : Hid (∀ (w1 w2 : World), Hid (Below wr.heap.size wr w1) → Hid (IsB w.heap.size w.heap.size (escL (t.take i) sl ++ [c]) w2 ∧ Below w.heap.size w1 w2) → IsB w.heap.size w.heap.size (escL (t.take (i + 1)) sl) w2 ∧ Below w.heap.size w w2) := fin
          have HS : Hid (∀ w1, Below wr.heap.size wr w1 → Calls Tryz.prog 83 #[.pointer (some ⟨w.heap.size, 0, none⟩), .int .u8 c.toNat] w1 fun e w' => e = .returned .nilIface ∧ IsB w.heap.size w.heap.size (escL (t.take i) sl ++ [c]) w' ∧ Below w.heap.size w1 w') := fun w1 h1 => wbyte w.heap.size w.heap.size (escL (t.take i) sl) c w1 (isB_below HD.out.2.1 h1) HD.out.2.2.2.2 (Nat.le_trans HD.out.2.2.2.1 h1.size)
          clear fin HD
          rcases hdis with rfl | rfl | rfl | rfl | ⟨rfl, hsl, h47⟩
          iterate 4
            · go_wp2_with first
                | (go_at_call 81; refine (KL.out wr).mono ?_; rintro e w1 ⟨rfl, hB1⟩; have HB1 : Hid (Below wr.heap.size wr w1) := hB1; clear hB1 KL)
                | (go_at_call 82; refine (KI.out w1).mono ?_; rintro e w1 ⟨rfl, rfl⟩; clear KI)
                | (go_at_call 83; refine (HS.out w1 HB1.out).mono ?_; rintro e w2 ⟨rfl, hI2, hB2⟩; have HB2 : Hid (IsB w.heap.size w.heap.size (escL (t.take i) sl ++ [c]) w2 ∧ Below w.heap.size w1 w2) := ⟨hI2, hB2⟩; clear hI2 hB2)
              exact ⟨⟨i + 1, by simp, by omega, HF.out w1 w2 HB1 HB2⟩, by simp; omega⟩
          · subst hsl; subst h47
            have hSn : (S[i]'hiS).toNat = 47 := by rw [hSi]; rfl
            have KL : Hid (∀ w, Calls Tryz.prog 81 #[.int .u8 47] w fun e w' => e = .returned (.bool false) ∧ Below w.heap.size w w') := KL
            have KI : Hid (∀ w, Calls Tryz.prog 82 #[.string ⟨#[45, 46, 95, 126]⟩, .int .u8 47] w fun e w' => e = .returned (.int .i64 (-1)) ∧ w' = w) := KI
            have HS : Hid (∀ w1, Below wr.heap.size wr w1 → Calls Tryz.prog 83 #[.pointer (some ⟨w.heap.size, 0, none⟩), .int .u8 47] w1 fun e w' => e = .returned .nilIface ∧ IsB w.heap.size w.heap.size (escL (t.take i) true ++ [47]) w' ∧ Below w.heap.size w1 w') := HS
            clear hSi
            go_wp2_with first
                | (go_at_call 81; refine (KL.out wr).mono ?_; rintro e w1 ⟨rfl, hB1⟩; have HB1 : Hid (Below wr.heap.size wr w1) := hB1; clear hB1)
                | (go_at_call 82; refine (KI.out w1).mono ?_; rintro e w1 ⟨rfl, rfl⟩)
                | (go_at_call 83; refine (HS.out w1 HB1.out).mono ?_; rintro e w2 ⟨rfl, hI2, hB2⟩; have HB2 : Hid (IsB w.heap.size w.heap.size (escL (t.take i) true ++ [47]) w2 ∧ Below w.heap.size w1 w2) := ⟨hI2, hB2⟩; clear hI2 hB2)
            exact ⟨⟨i + 1, by simp, by omega, HF.out w1 w2 HB1 HB2⟩, by simp; omega⟩
        · have hsf1 : safe sl c = false := by simpa using hsf0
          have hsf := esc_un hsf1
          rw [hsf] at hst
          have HD : Hid (escL (t.take (i + 1)) sl = escL (t.take i) sl ++ [37, HXU.getD (c.toNat / 16) 0, HXU.getD (c.toNat % 16) 0] ∧ IsB w.heap.size w.heap.size (escL (t.take i) sl) wr ∧ Below w.heap.size w wr ∧ w.heap.size ≤ wr.heap.size ∧ (escL (t.take i) sl).length + 3 ≤ 140737488355328) := ⟨hst, hI, hB, hsz, by omega⟩
          have hdis : z = -1 ∧ (sl = false ∨ (sl = true ∧ ((c.toNat : Int) == 47) = false)) := by
            unfold safe at hsf1
            rw [hal] at hsf1
            rcases hz5 with ⟨h1, h2⟩ | ⟨h1, h2⟩
            · rw [h2] at hsf1
              refine ⟨h1, ?_⟩
              cases sl with
              | false => exact .inl rfl
              | true =>
                refine .inr ⟨rfl, ?_⟩
                rw [beq_eq_false_iff_ne]
                simp at hsf1
                omega
            · rw [h2] at hsf1; simp at hsf1
          have HF : Hid (∀ (w1 w2 : World), Hid (Below wr.heap.size wr w1) → Hid (IsB w.heap.size w.heap.size (escL (t.take i) sl ++ [37, HXU.getD (c.toNat / 16) 0, HXU.getD (c.toNat % 16) 0]) w2 ∧ Below w.heap.size w1.drew w2) → IsB w.heap.size w.heap.size (escL (t.take (i + 1)) sl) w2 ∧ Below w.heap.size w w2) := fun w1 w2 HB1 HB2 => by
            refine ⟨?_, (HD.out.2.2.1.trans ((below_drew HB1.out).mono HD.out.2.2.2.1)).trans HB2.out.2⟩
            rw [HD.out.1]; exact HB2.out.1
          obtain ⟨E, hE⟩ : ∃ E : ByteArray, E = ⟨#[37]⟩ ++ (⟨#[48, 49, 50, 51, 52, 53, 54, 55, 56, 57, 65, 66, 67, 68, 69, 70]⟩ : ByteArray).extract ((c.toNat : Int) / 16).toNat (IntKind.u8.wrap ((c.toNat : Int) / 16 + 1)).toNat ++ (⟨#[48, 49, 50, 51, 52, 53, 54, 55, 56, 57, 65, 66, 67, 68, 69, 70]⟩ : ByteArray).extract (bits .and .u8 (c.toNat : Int) 15).toNat (IntKind.u8.wrap (bits .and .u8 (c.toNat : Int) 15 + 1)).toNat := ⟨_, rfl⟩
          have HE : Hid (E = ⟨#[37]⟩ ++ (⟨#[48, 49, 50, 51, 52, 53, 54, 55, 56, 57, 65, 66, 67, 68, 69, 70]⟩ : ByteArray).extract ((c.toNat : Int) / 16).toNat (IntKind.u8.wrap ((c.toNat : Int) / 16 + 1)).toNat ++ (⟨#[48, 49, 50, 51, 52, 53, 54, 55, 56, 57, 65, 66, 67, 68, 69, 70]⟩ : ByteArray).extract (bits .and .u8 (c.toNat : Int) 15).toNat (IntKind.u8.wrap (bits .and .u8 (c.toNat : Int) 15 + 1)).toNat) := hE
          have HS : Hid (∀ w1, Hid (Below wr.heap.size wr w1) → Calls Tryz.prog 70 #[.pointer (some ⟨w.heap.size, 0, none⟩), .string E] w1.drew fun e w' => e = .returned (.tuple #[.int .i64 3, .nilIface]) ∧ Hid (IsB w.heap.size w.heap.size (escL (t.take i) sl ++ [37, HXU.getD (c.toNat / 16) 0, HXU.getD (c.toNat % 16) 0]) w' ∧ Below w.heap.size w1.drew w')) := fun w1 h1 => by
            rw [hE, hx_e1, hx_e2, cat3]
            refine (wstr w.heap.size w.heap.size (escL (t.take i) sl) [37, HXU.getD (c.toNat / 16) 0, HXU.getD (c.toNat % 16) 0] w1.drew (isB_below HD.out.2.1 (below_drew h1.out)) HD.out.2.2.2.2 (Nat.le_trans HD.out.2.2.2.1 h1.out.size)).mono ?_
            rintro e w2 ⟨rfl, h2, h3⟩
            exact ⟨rfl, h2, h3⟩
          clear hst hI hB hsz hel kl hsf hsf0 hsf1 hz5 hal hcc at_ HD hE
          obtain ⟨rfl, hdis⟩ := hdis
          rcases hdis with rfl | ⟨rfl, h47⟩
          all_goals
            go_wp2_with first
              | (go_at_call 81; refine (KL.out wr).mono ?_; rintro e w1 ⟨rfl, hB1⟩; have HB1 : Hid (Below wr.heap.size wr w1) := hB1; clear hB1)
              | (go_at_call 82; refine (KI.out w1).mono ?_; rintro e w1 ⟨rfl, rfl⟩)
            obtain ⟨a1, a2, a3, a4⟩ := hx_facts c
            obtain ⟨b1, b2, b3, b4⟩ := hx_facts2 c
            have n1 := hx_n1 c
            have n2 := hx_n2 c
            go_still_tail 14, (by kernel_rfl)
            clear a1 a2 a3 a4 b1 b2 b3 b4 n1 n2
            rw [← HE.out]
            change wpList _ _ _ _ _ w1.drew
            have HT := HS.out w1 HB1
            clear HS
            go_wp2_with first
              | (go_at_call 70; refine HT.mono ?_; rintro e w2 ⟨rfl, HB2⟩; clear HT)
            exact ⟨⟨i + 1, by simp, by omega, HF.out w1 w2 HB1 HB2⟩, by simp; omega⟩
    · have hie : i = n := by omega
      subst hie
      have hsz : w.heap.size ≤ wr.heap.size := hB.size
      rw [List.take_of_length_le (by rw [KS.out.2]; exact Nat.le_refl _)] at hI
      have HD : Hid (IsB w.heap.size w.heap.size (escL t sl) wr ∧ Below w.heap.size w wr ∧ w.heap.size ≤ wr.heap.size) := ⟨hI, hB, hsz⟩
      clear hI hB hsz
      go_wp2_with (go_at_call 71; refine (Tryz.Builder_String_any w.heap.size w.heap.size (escL t sl) wr HD.out.1 HD.out.2.2).mono ?_; rintro e w1 ⟨rfl, hB1⟩)
      go_ret
      exact ⟨rfl, HD.out.2.1.trans hB1⟩
end Go.Proofs.YtdigohaeakclfaaGreatDoor
set_option maxRecDepth 100000
set_option linter.unusedVariables false
namespace Go.Proofs.YtdigohaeakclfaaGreatDoor
open Go Go.Am Go.RowKit
theorem cescF (s : List UInt8) (sl : Bool) (hs : s.length ≤ 16777216) : FnOK Tryz.prog 40 [.str s, .bool sl] [] (.str (escL s sl)) [] := by
  refine FnOK.of_below rfl fun w G vs hl ha hw => ?_
  obtain ⟨v0, v1, rfl⟩ : ∃ v0 v1, vs = [v0, v1] := by
    match vs, hl with
    | [v0, v1], _ => exact ⟨v0, v1, rfl⟩
  have h0 := (ha 0 _ v0 rfl rfl).str_inv
  have h1 := (ha 1 _ v1 rfl rfl).bool_inv
  subst h0; subst h1
  refine (esc_core s sl s.length rfl hs w).mono ?_
  rintro e w' ⟨rfl, hB⟩
  exact ⟨_, rfl, fun G w => .str .., hB⟩
end Go.Proofs.YtdigohaeakclfaaGreatDoor
set_option linter.unusedVariables false
set_option linter.unusedSimpArgs false
namespace Go.Proofs.YtdigohaeakclfaaGreatDoor
open Go Go.Am
def ltL (a b : List UInt8) : Bool := Op.bytesLess a b
def belowP (a b : Hd) : Bool := ltL a.1 b.1 || (decide (a.1 = b.1) && ltL a.2 b.2)
theorem ltL_nil (a : List UInt8) : ltL a [] = false := by cases a <;> rfl
theorem ltL_nc (y : UInt8) (b : List UInt8) : ltL [] (y :: b) = true := rfl
theorem ltL_cc (x y : UInt8) (a b : List UInt8) : ltL (x :: a) (y :: b) = (decide (x < y) || (x == y && ltL a b)) := rfl
theorem ltL_iff (x y : UInt8) (a b : List UInt8) : ltL (x :: a) (y :: b) = true ↔ x.toNat < y.toNat ∨ (x.toNat = y.toNat ∧ ltL a b = true) := by
  rw [ltL_cc]; simp [UInt8.lt_iff_toNat_lt, UInt8.toNat_inj]
theorem ltL_irr : ∀ a : List UInt8, ltL a a = false
  | [] => rfl
  | x :: a => by
    cases h : ltL (x :: a) (x :: a) with
    | false => rfl
    | true => rw [ltL_iff, ltL_irr a] at h; simp at h
theorem ltL_tr : ∀ {a b c : List UInt8}, ltL a b = true → ltL b c = true → ltL a c = true
  | _, _, [], _, h => by rw [ltL_nil] at h; cases h
  | _, [], _ :: _, h, _ => by rw [ltL_nil] at h; cases h
  | [], _ :: _, _ :: _, _, _ => rfl
  | x :: a, y :: b, z :: c, h1, h2 => by
    rw [ltL_iff] at *
    rcases h1 with h1 | ⟨h1, h1'⟩
    · rcases h2 with h2 | ⟨h2, _⟩ <;> exact .inl (by omega)
    · rcases h2 with h2 | ⟨h2, h2'⟩
      · exact .inl (by omega)
      · exact .inr ⟨by omega, ltL_tr h1' h2'⟩
theorem ltL_tot : ∀ {a b : List UInt8}, ltL a b = false → ltL b a = false → a = b
  | [], [], _, _ => rfl
  | [], _ :: _, h, _ => by rw [ltL_nc] at h; cases h
  | _ :: _, [], _, h => by rw [ltL_nc] at h; cases h
  | x :: a, y :: b, h1, h2 => by
    have g1 : ¬ (x.toNat < y.toNat ∨ (x.toNat = y.toNat ∧ ltL a b = true)) := by rw [← ltL_iff, h1]; exact Bool.false_ne_true
    have g2 : ¬ (y.toNat < x.toNat ∨ (y.toNat = x.toNat ∧ ltL b a = true)) := by rw [← ltL_iff, h2]; exact Bool.false_ne_true
    have e : x.toNat = y.toNat := by omega
    have g3 : ltL a b = false := by cases h : ltL a b with
      | false => rfl
      | true => exact absurd (.inr ⟨e, h⟩) g1
    have g4 : ltL b a = false := by cases h : ltL b a with
      | false => rfl
      | true => exact absurd (.inr ⟨e.symm, h⟩) g2
    rw [UInt8.toNat_inj.1 e, ltL_tot g3 g4]
theorem ltL_as {a b : List UInt8} (h : ltL a b = true) : ltL b a = false := by
  cases h2 : ltL b a with
  | false => rfl
  | true => have := ltL_tr h h2; rw [ltL_irr] at this; cases this
theorem belP_iff (a b : Hd) : belowP a b = true ↔ ltL a.1 b.1 = true ∨ (a.1 = b.1 ∧ ltL a.2 b.2 = true) := by
  unfold belowP; simp
theorem belP_irr (a : Hd) : belowP a a = false := by unfold belowP; simp [ltL_irr]
theorem belP_tr {a b c : Hd} (h1 : belowP a b = true) (h2 : belowP b c = true) : belowP a c = true := by
  rw [belP_iff] at *
  rcases h1 with h1 | ⟨h1, h1'⟩
  · rcases h2 with h2 | ⟨h2, _⟩
    · exact .inl (ltL_tr h1 h2)
    · exact .inl (h2 ▸ h1)
  · rcases h2 with h2 | ⟨h2, h2'⟩
    · exact .inl (h1 ▸ h2)
    · exact .inr ⟨h1.trans h2, ltL_tr h1' h2'⟩
theorem belP_as {a b : Hd} (h : belowP a b = true) : belowP b a = false := by
  cases h2 : belowP b a with
  | false => rfl
  | true => have := belP_tr h h2; rw [belP_irr] at this; cases this
theorem belP_tot {a b : Hd} (h1 : belowP a b = false) (h2 : belowP b a = false) : a = b := by
  have g1 : ¬ (ltL a.1 b.1 = true ∨ (a.1 = b.1 ∧ ltL a.2 b.2 = true)) := by rw [← belP_iff, h1]; exact Bool.false_ne_true
  have g2 : ¬ (ltL b.1 a.1 = true ∨ (b.1 = a.1 ∧ ltL b.2 a.2 = true)) := by rw [← belP_iff, h2]; exact Bool.false_ne_true
  have f : ∀ {x : Bool}, ¬ x = true → x = false := fun {x} h => by cases x <;> simp at h ⊢
  have e1 : a.1 = b.1 := ltL_tot (f fun h => g1 (.inl h)) (f fun h => g2 (.inl h))
  have e2 : a.2 = b.2 := ltL_tot (f fun h => g1 (.inr ⟨e1, h⟩)) (f fun h => g2 (.inr ⟨e1.symm, h⟩))
  exact Prod.ext e1 e2
theorem belP_ntr {a b c : Hd} (h1 : belowP a b = false) (h2 : belowP b c = false) : belowP a c = false := by
  cases h : belowP a c with
  | false => rfl
  | true =>
    cases h3 : belowP b a with
    | true => rw [belP_tr h3 h] at h2; cases h2
    | false => rw [belP_tot h1 h3] at h; rw [h] at h2; cases h2
/-- rising -/
abbrev Up (a b : Hd) : Prop := belowP b a = false
theorem Up.tr {a b c : Hd} (h1 : Up a b) (h2 : Up b c) : Up a c := belP_ntr h2 h1
/-- there is one rising list of given pairs -/
theorem up_unique {l m : List Hd} (hp : l.Perm m) (h1 : l.Pairwise Up) (h2 : m.Pairwise Up) : l = m :=
  hp.eq_of_pairwise (fun a b _ _ h1 h2 => belP_tot h2 h1) h1 h2
/-- the place of a pair in a rising list, looked for from its end -/
def stpP (l : List Hd) (x : Hd) : Nat → Nat
  | 0 => 0
  | k + 1 => if belowP x (l.getD k ([], [])) = true then stpP l x k else k + 1
theorem stpP_le (l : List Hd) (x : Hd) : ∀ k, stpP l x k ≤ k
  | 0 => Nat.le_refl _
  | k + 1 => by unfold stpP; split; exact Nat.le_succ_of_le (stpP_le l x k); exact Nat.le_refl _
theorem stpP_at (l : List Hd) (x : Hd) : ∀ k, 0 < stpP l x k → belowP x (l.getD (stpP l x k - 1) ([], [])) = false
  | 0, h => by simp [stpP] at h
  | k + 1, h => by
    unfold stpP at *
    split
    · rename_i hb; rw [if_pos hb] at h; exact stpP_at l x k h
    · rename_i hb; simpa using hb
theorem stpP_up (l : List Hd) (x : Hd) : ∀ k j, stpP l x k ≤ j → j < k → belowP x (l.getD j ([], [])) = true
  | 0, j, _, h => by omega
  | k + 1, j, h1, h2 => by
    unfold stpP at h1
    split at h1
    · rename_i hb
      by_cases hj : j = k
      · subst hj; exact hb
      · exact stpP_up l x k j h1 (by omega)
    · omega
def insP (l : List Hd) (x : Hd) : List Hd := l.take (stpP l x l.length) ++ x :: l.drop (stpP l x l.length)
def sortP (l : List Hd) : List Hd := l.foldl insP []
theorem insP_perm (l : List Hd) (x : Hd) : (insP l x).Perm (x :: l) := by
  unfold insP
  refine List.perm_middle.trans ?_
  rw [List.take_append_drop]
theorem sortP_snoc (l : List Hd) (x : Hd) : sortP (l ++ [x]) = insP (sortP l) x := by simp [sortP]
theorem foldP_perm (l : List Hd) : ∀ a : List Hd, (l.foldl insP a).Perm (a ++ l) := by
  induction l with
  | nil => intro a; simp
  | cons x l ih =>
    intro a
    rw [List.foldl_cons]
    refine (ih _).trans ?_
    refine ((insP_perm a x).append_right l).trans ?_
    exact List.perm_middle.symm
theorem sortP_perm (l : List Hd) : (sortP l).Perm l := foldP_perm l []
theorem sortP_len (l : List Hd) : (sortP l).length = l.length := (sortP_perm l).length_eq
theorem pw_get {l : List Hd} (h : l.Pairwise Up) {i j : Nat} (hij : i < j) (hj : j < l.length) : Up (l.getD i ([], [])) (l.getD j ([], [])) := by
  rw [List.getD_eq_getElem?_getD, List.getD_eq_getElem?_getD, List.getElem?_eq_getElem hj, List.getElem?_eq_getElem (by omega)]
  exact List.pairwise_iff_getElem.1 h i j (by omega) hj hij
theorem insP_up {l : List Hd} {x : Hd} (h : l.Pairwise Up) : (insP l x).Pairwise Up := by
  have hs := stpP_le l x l.length
  have ha := stpP_at l x l.length
  have hu := stpP_up l x l.length
  unfold insP
  generalize stpP l x l.length = s at *
  have hb : ∀ a ∈ l.take s, Up a x := fun a ham => by
    obtain ⟨i, hi, rfl⟩ := List.getElem_of_mem ham
    rw [List.length_take] at hi
    have hsp : 0 < s := by omega
    have h0 := ha hsp
    have hai : (l.take s)[i]'(by rw [List.length_take]; exact hi) = l.getD i ([], []) := by
      rw [List.getElem_take, List.getD_eq_getElem?_getD, List.getElem?_eq_getElem (show i < l.length by omega)]; rfl
    rw [hai]
    by_cases hi2 : i = s - 1
    · subst hi2; exact h0
    · exact Up.tr (pw_get h (show i < s - 1 by omega) (by omega)) h0
  have hd : ∀ b ∈ l.drop s, Up x b := fun b hbm => by
    obtain ⟨i, hi, rfl⟩ := List.getElem_of_mem hbm
    rw [List.length_drop] at hi
    have hbi : (l.drop s)[i]'(by rw [List.length_drop]; exact hi) = l.getD (s + i) ([], []) := by
      rw [List.getElem_drop, List.getD_eq_getElem?_getD, List.getElem?_eq_getElem (show s + i < l.length by omega)]; rfl
    rw [hbi]
    exact belP_as (hu (s + i) (by omega) (by omega))
  rw [List.pairwise_append]
  refine ⟨h.sublist (List.take_sublist _ _), ?_, fun a ham b hbm => ?_⟩
  · rw [List.pairwise_cons]
    exact ⟨hd, h.sublist (List.drop_sublist _ _)⟩
  · rcases List.mem_cons.1 hbm with rfl | hbm
    · exact hb a ham
    · exact Up.tr (hb a ham) (hd b hbm)
theorem sortP_up (l : List Hd) : (sortP l).Pairwise Up := by
  have : ∀ (l a : List Hd), a.Pairwise Up → (l.foldl insP a).Pairwise Up := fun l => by
    induction l with
    | nil => intro a h; exact h
    | cons x l ih => intro a h; exact ih _ (insP_up h)
  exact this l [] List.Pairwise.nil
/-- whatever sorts is this sort -/
theorem sorts {l m : List Hd} (hp : m.Perm l) (hm : m.Pairwise Up) : m = sortP l := up_unique (hp.trans (sortP_perm l).symm) hm (sortP_up l)
end Go.Proofs.YtdigohaeakclfaaGreatDoor
set_option maxRecDepth 100000
set_option linter.unusedVariables false
set_option linter.unusedSimpArgs false
namespace Go.Proofs.YtdigohaeakclfaaGreatDoor
open Go Go.Am
def xsig : List UInt8 := [88, 45, 65, 109, 122, 45, 83, 105, 103, 110, 97, 116, 117, 114, 101]
def cPairs (pre : Bool) : List Hd → Option (List Hd)
  | [] => some []
  | p :: r => if pre = true ∧ p.1 = xsig then cPairs pre r else match unescL p.1, unescL p.2 with
    | some a, some b => (cPairs pre r).map ((escL a false, escL b false) :: ·)
    | _, _ => none
def queryC (t : List UInt8) (pre : Bool) : Option (List UInt8) := (cPairs pre (queryQ t)).map fun l => joinL ((sortP l).map fun p => p.1 ++ [61] ++ p.2) [38]
def valsL (hd : List Hd) (n : List UInt8) : List (List UInt8) := (allL hd n).map foldL
def lineL (hd : List Hd) (n : List UInt8) : List UInt8 := n ++ [58] ++ joinL (valsL hd n) [44] ++ [10]
def headC (m p q : List UInt8) : List UInt8 := m ++ [10] ++ p ++ [10] ++ q ++ [10]
def textC (m p q : List UInt8) (hd : List Hd) (sg : List (List UInt8)) (pay : List UInt8) : List UInt8 := headC m p q ++ sg.flatMap (lineL hd) ++ [10] ++ joinL sg [59] ++ [10] ++ pay
def canonL (m t : List UInt8) (hd : List Hd) (sg : List (List UInt8)) (pay : List UInt8) (pre : Bool) : Option (List UInt8) :=
  match unescL (queryP t), queryC t pre with
  | some p, some q => some (textC m (escL p true) q hd sg pay)
  | _, _ => none
def errC (o : Option (List UInt8)) : Int := if o.isSome = true then 0 else 331
theorem queryP_len (t : List UInt8) : (queryP t).length ≤ t.length := (cut_len t 63).1
theorem valsL_len (hd : List Hd) (n : List UInt8) : (valsL hd n).length ≤ hd.length := by
  unfold valsL allL; rw [List.length_map]; exact aN_len hd n hd.length
theorem fm_step (hd : List Hd) {sg : List (List UInt8)} {i : Nat} (hi : i < sg.length) : (sg.take (i + 1)).flatMap (lineL hd) = (sg.take i).flatMap (lineL hd) ++ lineL hd (sg.getD i []) := by
  rw [List.take_add_one, List.getElem?_eq_getElem hi, List.getD_eq_getElem?_getD, List.getElem?_eq_getElem hi]
  simp only [List.flatMap_append, Option.toList_some, List.flatMap_cons, List.flatMap_nil, List.append_nil, Option.getD_some]
theorem unesc_len : ∀ (n : Nat) (s : List UInt8), s.length = n → ∀ x, unescL s = some x → x.length ≤ s.length := by
  intro n
  induction n using Nat.strongRecOn with
  | ind n ih =>
    intro s hs x hx
    match s, hs, hx with
    | [], _, hx => unfold unescL at hx; cases hx; simp
    | c :: r, hs, hx =>
      have tl : ∀ (r' : List UInt8) (y : UInt8), r'.length ≤ r.length → (unescL r').map (y :: ·) = some x → x.length ≤ (c :: r).length := fun r' y hr hm => by
        cases e : unescL r' with
        | none => rw [e] at hm; cases hm
        | some z =>
          rw [e] at hm; cases hm
          have := ih r'.length (by simp only [List.length_cons] at hs; omega) r' rfl z e
          simp only [List.length_cons]; omega
      by_cases hc : c = 37
      · subst hc
        match r, hs, hx, tl with
        | [], _, hx, _ => rw [une_short (by simp)] at hx; cases hx
        | [a], _, hx, _ => rw [une_short (by simp)] at hx; cases hx
        | a :: b :: r, hs, hx, tl =>
          cases ea : hvU a with
          | none => rw [une_bad r (.inl ea)] at hx; cases hx
          | some p =>
            cases eb : hvU b with
            | none => rw [une_bad r (.inr eb)] at hx; cases hx
            | some q => rw [une_hit r ea eb] at hx; exact tl r _ (by simp; omega) hx
      · rw [une_ne hc] at hx
        exact tl r c (Nat.le_refl _) hx
theorem unesc_le {s x : List UInt8} (h : unescL s = some x) : x.length ≤ s.length := unesc_len _ s rfl x h
theorem qN_part (ps : List (List UInt8)) (B : Nat) (hB : ∀ i, (ps.getD i []).length ≤ B) : ∀ i, ∀ p ∈ qN ps i, p.1.length ≤ B ∧ p.2.length ≤ B
  | 0, p, h => by simp [qN] at h
  | i + 1, p, h => by
    unfold qN at h
    split at h
    · exact qN_part ps B hB i p h
    · rw [List.mem_append, List.mem_singleton] at h
      rcases h with h | rfl
      · exact qN_part ps B hB i p h
      · have := cut_len (ps.getD i []) 61
        have := hB i
        exact ⟨by simp only; omega, by simp only; omega⟩
theorem query_part (t : List UInt8) : ∀ p ∈ queryQ t, p.1.length ≤ t.length ∧ p.2.length ≤ t.length := fun p hp =>
  qN_part _ t.length (fun i => Nat.le_trans (split_part _ _ i) (cut_len t 63).2) _ p hp
theorem queryQ_len (t : List UInt8) : (queryQ t).length ≤ t.length + 1 := by
  have h1 := qN_len (splitL (cutF t 63).2.1 38) (splitL (cutF t 63).2.1 38).length
  have h2 := splitL_len (cutF t 63).2.1 38
  have h3 := (cut_len t 63).2
  unfold queryQ; omega
theorem cPairs_part (pre : Bool) (B : Nat) : ∀ (l ps : List Hd), (∀ p ∈ l, p.1.length ≤ B ∧ p.2.length ≤ B) → cPairs pre l = some ps → ps.length ≤ l.length ∧ ∀ q ∈ ps, q.1.length ≤ 3 * B ∧ q.2.length ≤ 3 * B
  | [], ps, _, h => by unfold cPairs at h; cases h; simp
  | p :: r, ps, hl, h => by
    unfold cPairs at h
    have hr := fun ps' h' => cPairs_part pre B r ps' (fun q hq => hl q (List.mem_cons_of_mem _ hq)) h'
    split at h
    · have := hr ps h
      exact ⟨by simp only [List.length_cons]; omega, this.2⟩
    · split at h
      · rename_i a b ha hb
        cases e : cPairs pre r with
        | none => rw [e] at h; cases h
        | some qs =>
          rw [e] at h; cases h
          have := hr qs e
          have hp := hl p List.mem_cons_self
          have u1 := unesc_le ha
          have u2 := unesc_le hb
          have e1 := escL_len false a
          have e2 := escL_len false b
          refine ⟨by simp only [List.length_cons]; omega, fun q hq => ?_⟩
          rcases List.mem_cons.1 hq with rfl | hq
          · exact ⟨by simp only; omega, by simp only; omega⟩
          · exact this.2 q hq
      · cases h
theorem joinN_sum (l : List (List UInt8)) (sep : List UInt8) : ∀ i, i ≤ l.length → (joinN l sep i).length ≤ ((l.take i).map fun x => x.length + sep.length).sum
  | 0, _ => by simp [joinN]
  | i + 1, h => by
    have ih := joinN_sum l sep i (by omega)
    have hi : i < l.length := h
    rw [joinN_succ, List.length_append]
    rw [List.take_add_one, List.getElem?_eq_getElem hi, List.map_append, List.sum_append, List.getD_eq_getElem?_getD, List.getElem?_eq_getElem hi]
    simp only [Option.toList_some, List.map_cons, List.map_nil, List.sum_cons, List.sum_nil, Option.getD_some]
    split
    · rw [List.length_append]; omega
    · omega
theorem joinL_sum (l : List (List UInt8)) (sep : List UInt8) : (joinL l sep).length ≤ (l.map fun x => x.length + sep.length).sum := by
  have := joinN_sum l sep l.length (Nat.le_refl _)
  rwa [List.take_length] at this
theorem sum_bd {α : Type} (f : α → Nat) (B : Nat) : ∀ l : List α, (∀ x ∈ l, f x ≤ B) → (l.map f).sum ≤ l.length * B
  | [], _ => by simp
  | x :: l, h => by
    have h1 := h x List.mem_cons_self
    have h2 := sum_bd f B l fun y hy => h y (List.mem_cons_of_mem _ hy)
    rw [List.map_cons, List.sum_cons, List.length_cons, Nat.add_mul]; omega
theorem joinL_bd (l : List (List UInt8)) (sep : List UInt8) (B : Nat) (h : ∀ x ∈ l, x.length ≤ B) : (joinL l sep).length ≤ l.length * (B + sep.length) :=
  Nat.le_trans (joinL_sum l sep) (sum_bd _ _ l fun x hx => by have := h x hx; omega)
abbrev fmtP (p : Hd) : List UInt8 := p.1 ++ [61] ++ p.2
theorem fmt_bd (t : List UInt8) (pre : Bool) (ht : t.length ≤ 3500000) (ps : List Hd) (h : cPairs pre (queryQ t) = some ps) : ps.length ≤ 3500001 ∧ ∀ q ∈ ps, q.1.length ≤ 10500000 ∧ q.2.length ≤ 10500000 := by
  have h1 := cPairs_part pre t.length (queryQ t) ps (query_part t) h
  have h2 := queryQ_len t
  refine ⟨by omega, fun q hq => ?_⟩
  have := h1.2 q hq
  omega
theorem join_bd (ps : List Hd) (hn : ps.length ≤ 3500001) (hq : ∀ q ∈ ps, q.1.length ≤ 10500000 ∧ q.2.length ≤ 10500000) : (joinL (ps.map fmtP) [38]).length ≤ 80000000000000 := by
  have := joinL_bd (ps.map fmtP) [38] 21000001 (fun x hx => by
    obtain ⟨q, hq', rfl⟩ := List.mem_map.1 hx
    have := hq q hq'
    simp only [fmtP, List.length_append, List.length_cons, List.length_nil]; omega)
  rw [List.length_map] at this
  have h2 : ps.length * (21000001 + [38].length) ≤ 3500001 * 21000002 := Nat.mul_le_mul hn (by simp)
  simp only [List.length_cons, List.length_nil] at *
  omega
theorem queryC_len (t : List UInt8) (pre : Bool) (ht : t.length ≤ 3500000) : ∀ q, queryC t pre = some q → q.length ≤ 80000000000000 := fun q hq => by
  unfold queryC at hq
  cases e : cPairs pre (queryQ t) with
  | none => rw [e] at hq; cases hq
  | some ps =>
    rw [e] at hq; cases hq
    have hb := fmt_bd t pre ht ps e
    refine join_bd (sortP ps) (by rw [sortP_len]; exact hb.1) fun q hq => hb.2 q ((sortP_perm ps).mem_iff.1 hq)
end Go.Proofs.YtdigohaeakclfaaGreatDoor
set_option maxRecDepth 100000
set_option linter.unusedVariables false
set_option linter.unusedSimpArgs false
namespace Go.Proofs.YtdigohaeakclfaaGreatDoor
open Go.Am Go.Am.Runs

theorem below_ok (a b : Hd) : FnOK Tryz.prog 113 [.agg [.str a.1, .str a.2], .agg [.str b.1, .str b.2]] [] (.bool (belowP a b)) [] := by
  refine FnOK.of_runs Tryz.func113 rfl (Nat.le_of_ble_eq_true rfl) ?_
  refine seq (reg [] [] rfl (by decide) ?_)
  refine seq (region (restTo 6 [] [] rfl (by decide) ?_))
  refine splitS 10 rfl (fun g10 => ?_) (fun g10 => ?_)
  · try simp only [zg] at g10
    refine rest [] [] rfl (by decide) ?_
    refine drop 0 (Nat.le_refl _) rfl ?_
    exact retH Tryz.func113 rfl rfl (by refine congrArg AV.bool ?_; unfold belowP ltL; (rw [g10]; rfl)) rfl
  · try simp only [zg] at g10
    refine restTo 6 [] [] rfl (by decide) ?_
    refine splitS 16 rfl (fun g16 => ?_) (fun g16 => ?_)
    · try simp only [zg] at g16
      refine rest [] [] rfl (by decide) ?_
      refine drop 0 (Nat.le_refl _) rfl ?_
      exact retH Tryz.func113 rfl rfl (by refine congrArg AV.bool ?_; unfold belowP ltL; (rw [g10, decide_eq_true g16]; rfl)) rfl
    · try simp only [zg] at g16
      refine rest [] [] rfl (by decide) ?_
      refine drop 0 (Nat.le_refl _) rfl ?_
      exact retH Tryz.func113 rfl rfl (by refine congrArg AV.bool ?_; unfold belowP ltL; (rw [g10, decide_eq_false g16]; rfl)) rfl

theorem escaped_ok (s : List UInt8) (slash : Bool) (hs : s.length ≤ 16777214) : FnOK Tryz.prog 63 [.str s, .bool slash] [] (.tup [.str (escL ((unescL s).getD []) slash), .bool (unescL s).isSome]) [] := by
  refine FnOK.of_runs Tryz.func63 rfl (Nat.le_of_ble_eq_true rfl) ?_
  refine seq (reg [] [] rfl (by decide) ?_)
  refine seq (reg [(1, { res := .tup [.str ((unescL s).getD []), .bool (unescL s).isSome] })] [0] rfl (by and_intros <;> first | exact ⟨⟩ | exact cunescF s hs) ?_)
  refine seq (reg [(2, { res := .str (escL ((unescL s).getD []) slash) })] [0, 1, 3] rfl (by and_intros <;> first | exact ⟨⟩ | exact cescF _ _ (by cases e : unescL s with | none => simp | some x => have := unesc_le e; simp only [Option.getD_some]; omega)) ?_)
  exact retH Tryz.func63 rfl rfl (by rfl) (by rfl)


end Go.Proofs.YtdigohaeakclfaaGreatDoor
set_option maxRecDepth 100000
set_option linter.unusedVariables false
set_option linter.unusedSimpArgs false
namespace Go.Proofs.YtdigohaeakclfaaGreatDoor
open Go Go.Am Go.RowKit
theorem a1 {G : Gh} {w : World} {c : AV} {v : Value} (h : VR G w [] c v) (hn : nr c = true) : ∀ (i : Nat) (c' : AV) (x : Value), [c][i]? = some c' → [v][i]? = some x → VR G w [] c' x ∧ nr c' = true
  | 0, c', x, h1, h2 => by simp at h1 h2; subst h1; subst h2; exact ⟨h, hn⟩
  | i + 1, c', x, h1, _ => by simp at h1
theorem a2 {G : Gh} {w : World} {c d : AV} {v u : Value} (h : VR G w [] c v) (hn : nr c = true) (h' : VR G w [] d u) (hn' : nr d = true) : ∀ (i : Nat) (c' : AV) (x : Value), [c, d][i]? = some c' → [v, u][i]? = some x → VR G w [] c' x ∧ nr c' = true
  | 0, c', x, h1, h2 => by simp at h1 h2; subst h1; subst h2; exact ⟨h, hn⟩
  | 1, c', x, h1, h2 => by simp at h1 h2; subst h1; subst h2; exact ⟨h', hn'⟩
  | i + 2, c', x, h1, _ => by simp at h1
abbrev hdV (p : Hd) : Value := .agg #[.string ⟨p.1.toArray⟩, .string ⟨p.2.toArray⟩]
theorem vr_hd (G : Gh) (w : World) (p : Hd) : VR G w [] (.agg [.str p.1, .str p.2]) (hdV p) :=
  .agg _ _ [.string ⟨p.1.toArray⟩, .string ⟨p.2.toArray⟩] rfl fun q c v h1 h2 => by
    match q, h1, h2 with
    | 0, h1, h2 => simp at h1 h2; subst h1; subst h2; exact .str ..
    | 1, h1, h2 => simp at h1 h2; subst h1; subst h2; exact .str ..
    | q + 2, h1, _ => simp at h1
theorem tup2 {G : Gh} {w : World} {a b : AV} {u : Value} (h : VR G w [] (.tup [a, b]) u) : ∃ x y, u = .tuple #[x, y] ∧ VR G w [] a x ∧ VR G w [] b y := by
  obtain ⟨us, rfl, hl, hv⟩ := h.tup_inv
  match us, hl with
  | [x, y], _ => exact ⟨x, y, rfl, hv 0 _ x rfl rfl, hv 1 _ y rfl rfl⟩
theorem kit_sb {f : FuncId} {args : List AV} {vs : List Value} {s : List UInt8} {b : Bool} (h : FnOK Tryz.prog f args [] (.tup [.str s, .bool b]) []) (hl : vs.length = args.length)
    (ha : ∀ (G : Gh) (w : World) (i : Nat) (c : AV) (v : Value), args[i]? = some c → vs[i]? = some v → VR G w [] c v ∧ nr c = true) (w : World) :
    Calls Tryz.prog f vs.toArray w fun e w' => e = .returned (.tuple #[.string ⟨s.toArray⟩, .bool b]) ∧ Below w.heap.size w w' := by
  refine (fn_kit h w (fun _ _ => False) (fun b o u h => h.elim) vs hl (fun i c v h1 h2 => ha _ _ i c v h1 h2)).mono ?_
  rintro e w' ⟨u, G', rfl, hr, hB, h3, h4⟩
  obtain ⟨x, y, rfl, hx, hy⟩ := tup2 hr
  rw [hx.str_inv, hy.bool_inv]
  exact ⟨rfl, hB⟩
theorem kit_s {f : FuncId} {args : List AV} {vs : List Value} {s : List UInt8} (h : FnOK Tryz.prog f args [] (.str s) []) (hl : vs.length = args.length)
    (ha : ∀ (G : Gh) (w : World) (i : Nat) (c : AV) (v : Value), args[i]? = some c → vs[i]? = some v → VR G w [] c v ∧ nr c = true) (w : World) :
    Calls Tryz.prog f vs.toArray w fun e w' => e = .returned (.string ⟨s.toArray⟩) ∧ Below w.heap.size w w' := by
  refine (fn_kit h w (fun _ _ => False) (fun b o u h => h.elim) vs hl (fun i c v h1 h2 => ha _ _ i c v h1 h2)).mono ?_
  rintro e w' ⟨u, G', rfl, hr, hB, h3, h4⟩
  rw [hr.str_inv]
  exact ⟨rfl, hB⟩
theorem kit_b {f : FuncId} {args : List AV} {vs : List Value} {b : Bool} (h : FnOK Tryz.prog f args [] (.bool b) []) (hl : vs.length = args.length)
    (ha : ∀ (G : Gh) (w : World) (i : Nat) (c : AV) (v : Value), args[i]? = some c → vs[i]? = some v → VR G w [] c v ∧ nr c = true) (w : World) :
    Calls Tryz.prog f vs.toArray w fun e w' => e = .returned (.bool b) ∧ Below w.heap.size w w' := by
  refine (fn_kit h w (fun _ _ => False) (fun b o u h => h.elim) vs hl (fun i c v h1 h2 => ha _ _ i c v h1 h2)).mono ?_
  rintro e w' ⟨u, G', rfl, hr, hB, h3, h4⟩
  rw [hr.bool_inv]
  exact ⟨rfl, hB⟩
/-- pairs in memory -/
def HdAt (w : World) (v : Value) (l : List Hd) : Prop := ∃ (base : Option (Nat × Nat)) (cap : Nat), v = .slice (base.map fun p => mkA p.1 p.2) l.length cap ∧ (base = none → l.length = 0) ∧
  ∀ b o, base = some (b, o) → ∀ i, i < l.length → w.cell? (mkA b (o + i * 2)) = some (.string ⟨(l.getD i ([], [])).1.toArray⟩) ∧ w.cell? (mkA b (o + i * 2 + 1)) = some (.string ⟨(l.getD i ([], [])).2.toArray⟩)
theorem hdAt_of {G : Gh} {w : World} {ρ : List Nat} {l : List Hd} {o : Bool} {v : Value} (h : VR G w ρ (.sl 2 l.length (hdEl l) o) v) : HdAt w v l := by
  obtain ⟨base, cap, vs, rfl, e1, e2, e3, e4, e5⟩ := h.sl_inv
  refine ⟨base, cap, rfl, fun e => by have := e2 e; omega, fun b o hb i hi => ?_⟩
  have c0 := e4 b o hb (i * 2) (by omega)
  have c1 := e4 b o hb (i * 2 + 1) (by omega)
  have v0 := e5 i 0 (.str (l.getD i ([], [])).1) hi rfl
  have v1 := e5 i 1 (.str (l.getD i ([], [])).2) hi rfl
  rw [Nat.add_zero] at v0
  refine ⟨?_, ?_⟩
  · rw [c0.2, v0.str_inv]
  · rw [Nat.add_assoc, c1.2, v1.str_inv]
theorem HdAt.below {N : Nat} {w w' : World} {v : Value} {l : List Hd} (h : HdAt w v l) (hN : w.heap.size ≤ N) (hb : Below N w w') : HdAt w' v l := by
  obtain ⟨base, cap, h1, h2, h3⟩ := h
  refine ⟨base, cap, h1, h2, fun b o e i hi => ?_⟩
  obtain ⟨c0, c1⟩ := h3 b o e i hi
  exact ⟨(hb.cell (p := mkA b (o + i * 2)) (Nat.lt_of_lt_of_le (World.block_lt_of_cell? _ _ c0) hN)).trans c0, (hb.cell (p := mkA b (o + i * 2 + 1)) (Nat.lt_of_lt_of_le (World.block_lt_of_cell? _ _ c1) hN)).trans c1⟩
theorem k24 (s : List UInt8) (hs : s.length ≤ 16777214) (w : World) : Calls Tryz.prog 72 #[.string ⟨s.toArray⟩] w fun e w' => e = .returned (.tuple #[.string ⟨((unescL s).getD []).toArray⟩, .bool (unescL s).isSome]) ∧ Below w.heap.size w w' :=
  kit_sb (vs := [.string ⟨s.toArray⟩]) (runesc_ok s hs) rfl (fun G w => a1 (.str ..) rfl) w
theorem k18 (s : List UInt8) (sl : Bool) (hs : s.length ≤ 16777214) (w : World) : Calls Tryz.prog 63 #[.string ⟨s.toArray⟩, .bool sl] w fun e w' => e = .returned (.tuple #[.string ⟨(escL ((unescL s).getD []) sl).toArray⟩, .bool (unescL s).isSome]) ∧ Below w.heap.size w w' :=
  kit_sb (vs := [.string ⟨s.toArray⟩, .bool sl]) (escaped_ok s sl hs) rfl (fun G w => a2 (.str ..) rfl (.bool ..) rfl) w
theorem k26 (s : List UInt8) (sl : Bool) (hs : s.length ≤ 16777216) (w : World) : Calls Tryz.prog 44 #[.string ⟨s.toArray⟩, .bool sl] w fun e w' => e = .returned (.string ⟨(escL s sl).toArray⟩) ∧ Below w.heap.size w w' :=
  kit_s (vs := [.string ⟨s.toArray⟩, .bool sl]) (resc_ok s sl hs) rfl (fun G w => a2 (.str ..) rfl (.bool ..) rfl) w
theorem k63 (a b : Hd) (w : World) : Calls Tryz.prog 113 #[hdV a, hdV b] w fun e w' => e = .returned (.bool (belowP a b)) ∧ Below w.heap.size w w' :=
  kit_b (vs := [hdV a, hdV b]) (below_ok a b) rfl (fun G w => a2 (vr_hd ..) rfl (vr_hd ..) rfl) w
theorem k23 (t : List UInt8) (ht : t.length ≤ 8388608) (w : World) : Calls Tryz.prog 41 #[.string ⟨t.toArray⟩] w fun e w' => ∃ v, e = .returned (.tuple #[.string ⟨(queryP t).toArray⟩, v]) ∧ HdAt w' v (queryQ t) ∧ Below w.heap.size w w' := by
  refine (fn_kit (rquery_ok t ht) w (fun _ _ => False) (fun b o u h => h.elim) [.string ⟨t.toArray⟩] rfl (a1 (.str ..) rfl)).mono ?_
  rintro e w' ⟨u, G', rfl, hr, hB, h3, h4⟩
  obtain ⟨x, y, rfl, hx, hy⟩ := tup2 hr
  rw [hx.str_inv]
  exact ⟨y, rfl, hdAt_of hy, hB⟩
end Go.Proofs.YtdigohaeakclfaaGreatDoor
