/- Chars.Unescape, walked. -/
import Derived.Test.YtnohmijdpmelpaaGreatLeaf
import Derived.BigQuiet
import Derived.Deep.QuietTactic
import Derived.WalkSpells
set_option maxRecDepth 100000
set_option linter.unusedVariables false
set_option linter.unusedSimpArgs false
set_option linter.unusedSectionVars false
namespace Go.Proofs.YtnohmijdpmelpaaGreat
open Go Go.Am Go.RowKit
attribute [local go_sem] Oper.semAt_some
theorem cdigit_kit (c : UInt8) (w : World) : Calls Tryz.prog 95 #[.int .u8 c.toNat] w fun e w' => e = .returned (.tuple #[.int .u8 ((hvU c).getD 0 : Nat), .bool (hvU c).isSome]) ∧ Below w.heap.size w w' := by
  refine (fn_kit (cdigit_ok c) w (fun _ _ => False) (fun b o u h => h.elim) [.int .u8 c.toNat] rfl (fun i c x h1 h2 => ?_)).mono ?_
  · match i, h1, h2 with
    | 0, h1, h2 => simp at h1 h2; subst h1; subst h2; exact ⟨.int .., rfl⟩
    | i + 1, h1, _ => simp at h1
  · rintro e w' ⟨u, G', rfl, hr, hB, h3, h4⟩
    cases hr with
    | tup _ _ us hl huv =>
      match us, hl with
      | [u0, u1], _ =>
        have a0 := huv 0 _ u0 rfl rfl
        have a1 := huv 1 _ u1 rfl rfl
        cases a0; cases a1
        exact ⟨rfl, hB⟩
abbrev IsB (B b : Nat) (l : List UInt8) (w : World) : Prop := Lib.IsBuilder 96 5 B b (Lib.byteCells l) w
theorem wbyte (B b : Nat) (l : List UInt8) (c : UInt8) (w : World) (h : IsB B b l w) (hlen : l.length + 1 ≤ 140737488355328) (hBw : B ≤ w.heap.size) :
    Calls Tryz.prog 94 #[.pointer (some ⟨b, 0, none⟩), .int .u8 c.toNat] w fun e w' => e = .returned .nilIface ∧ IsB B b (l ++ [c]) w' ∧ Below B w w' := by
  refine (Any.Builder_WriteByte Tryz.lays167 Tryz.Builder_Extra_B B b (Lib.byteCells l) c.toNat w h (by simpa [Lib.byteCells] using hlen) hBw).mono ?_
  rintro e w' ⟨rfl, h1, h2⟩
  refine ⟨rfl, ?_, h2⟩
  have : Lib.byteCells (l ++ [c]) = Lib.byteCells l ++ [.int .u8 c.toNat] := by simp [Lib.byteCells]
  unfold IsB
  rw [this]; exact .inr h1
theorem own_below {N : Nat} {e : TypeId} {v : Value} {n : Nat} {xs : List Value} {w w' : World} (h : w.ownsRow N e 1 v n xs) (hB : Below w.heap.size w w') : w'.ownsRow N e 1 v n xs := by
  refine ⟨h.1, ?_⟩
  rcases h.2 with h0 | ⟨g, cap, cur, h1, h2, h3, h4⟩
  · exact .inl h0
  · exact .inr ⟨g, cap, cur, h1, h2, (hB.block g (Array.getElem?_eq_some_iff.1 h3).1).trans h3, h4⟩
/-- what a digit tells, told as a number and a bool -/
theorem cdigit_any (c : UInt8) (w : World) : ∃ (d : Int) (k : Bool), Calls Tryz.prog 95 #[.int .u8 c.toNat] w fun e w' => e = .returned (.tuple #[.int .u8 d, .bool k]) ∧ Below w.heap.size w w' := ⟨_, _, cdigit_kit c w⟩
theorem orXY {x y : Nat} (hx : x < 16) (hy : y < 16) : bits .or .u8 ((x : Int) * 16 % 256) (y : Int) = ((UInt8.ofNat (16 * x + y)).toNat : Int) := by
  have : ∀ x y : Fin 16, bits .or .u8 ((x.val : Int) * 16 % 256) (y.val : Int) = ((UInt8.ofNat (16 * x.val + y.val)).toNat : Int) := by decide +kernel
  exact this ⟨x, hx⟩ ⟨y, hy⟩
theorem isB_below {B b : Nat} {l : List UInt8} {w w' : World} (h : IsB B b l w) (hB : Below w.heap.size w w') : IsB B b l w' := by
  rcases h with ⟨h1, v, h2, h3, h4⟩ | ⟨h1, v, h2, h3, h4⟩
  · exact .inl ⟨h1, v, (hB.block b (Array.getElem?_eq_some_iff.1 h2).1).trans h2, own_below h3 hB, h4⟩
  · exact .inr ⟨h1, v, (hB.block b (Array.getElem?_eq_some_iff.1 h2).1).trans h2, own_below h3 hB, h4⟩
theorem isB_new (w : World) : IsB w.heap.size w.heap.size [] (w.alloc (.cells #[.pointer none, .slice none 0 0] 96)) :=
  .inl ⟨Nat.le_refl _, .slice none 0 0, heap_alloc_new w _, World.ownsRow_nil _ _ _ _, by simp [Value.ownBlock]⟩
set_option maxHeartbeats 4000000 in
theorem unesc_core (t : List UInt8) (n : Nat) (hn : t.length = n) (hs : n ≤ 16777214) (w : World) :
    Calls Tryz.prog 53 #[.string ⟨t.toArray⟩] w fun e w' => e = .returned (.tuple #[.string ⟨((unescL t).getD []).toArray⟩, .bool (unescL t).isSome]) ∧ Below w.heap.size w w' := by
  obtain ⟨S, hSd⟩ : ∃ S : ByteArray, S = ⟨t.toArray⟩ := ⟨_, rfl⟩
  have hS : S.size = n := by rw [hSd, ← hn]; rfl
  rw [← hSd]
  have KS : Hid (S = ⟨t.toArray⟩ ∧ t.length = n) := ⟨hSd, hn⟩
  clear hSd hn
  go_enter Tryz.func53, Tryz.ntmps53
  go_wp2
  go_loopw [5] (fun v wr => ∃ (i : Nat) (out : List UInt8), v = .int .i64 i ∧ UsI t i out ∧ IsB w.heap.size w.heap.size out wr ∧ Below w.heap.size w wr)
    (fun v _ => match v with | .int _ i => n - i.toNat | _ => 0)
  case atStart => exact ⟨0, [], rfl, UsI.start t, isB_new w, (Below.refl _ w).alloc (Nat.le_refl _) _⟩
  case round =>
    obtain ⟨i, out, rfl, hU, hI, hB⟩ := hrel
    by_cases hi : i < n
    · have hle := hU.le
      have hsz : w.heap.size ≤ wr.heap.size := hB.size
      have hol : out.length + 1 ≤ 140737488355328 := by have := hU.len; omega
      have at_ : ∀ (j : Nat) (h : j < S.size), S[j]'h = t.getD j 0 := fun j h => by
        have h1 := KS.out.1; subst h1
        rw [List.getD_eq_getElem?_getD, List.getElem?_eq_getElem (show j < t.length from h)]; rfl
      have hiS : i < S.size := by omega
      have hSi := at_ i hiS
      obtain ⟨c, hcc⟩ : ∃ c, c = t.getD i 0 := ⟨_, rfl⟩
      rw [← hcc] at hSi
      by_cases hc : c = 37
      · have h37 : t.getD i 0 = 37 := hcc ▸ hc
        subst hc
        have hSn : (S[i]'hiS).toNat = 37 := by rw [hSi]; rfl
        clear hSi hcc
        by_cases h2 : n ≤ i + 2
        · have hsh := hU.short (by rw [KS.out.2]; exact hi) h37 (by rw [KS.out.2]; exact h2)
          have HD : Hid (unescL t = none ∧ Below w.heap.size w wr) := ⟨hsh, hB⟩
          clear hU hI hB hle hsh at_ h37
          go_wp2
          go_ret2
          rw [HD.out.1]; exact ⟨rfl, HD.out.2⟩
        · have hb1 : i + 1 < S.size := by omega
          have hb2 : i + 2 < S.size := by omega
          have hSa := at_ (i + 1) hb1
          have hSb := at_ (i + 2) hb2
          obtain ⟨a, ha⟩ : ∃ a, a = t.getD (i + 1) 0 := ⟨_, rfl⟩
          obtain ⟨b, hb⟩ : ∃ b, b = t.getD (i + 2) 0 := ⟨_, rfl⟩
          rw [← ha] at hSa
          rw [← hb] at hSb
          have ka := cdigit_kit a wr
          have h2a : i + 1 < n := by omega
          have h2b : i + 2 < n := by omega
          cases ea : hvU a with
          | none =>
            have hbd := hU.bad h37 (by rw [KS.out.2]; exact h2b) (.inl (ha ▸ ea))
            rw [ea] at ka
            have KA : Hid (Calls Tryz.prog 95 #[.int .u8 a.toNat] wr fun e w' => e = .returned (.tuple #[.int .u8 0, .bool false]) ∧ Below wr.heap.size wr w') := ka
            have HD : Hid (unescL t = none ∧ Below w.heap.size w wr ∧ w.heap.size ≤ wr.heap.size) := ⟨hbd, hB, hsz⟩
            clear hU hI hB hle hbd at_ h37 ka ha hb ea h2a h2b hol hsz
            go_wp2_with first
              | (go_at_call 95; refine KA.out.mono ?_; rintro e w1 ⟨rfl, hB1⟩; have HB1 : Hid (Below wr.heap.size wr w1) := hB1; clear hB1 KA)
              | (go_at_call 95; obtain ⟨d, k, hk⟩ := cdigit_any b w1; refine hk.mono ?_; rintro e w2 ⟨rfl, hB2⟩; have HB2 : Hid (Below w1.heap.size w1 w2) := hB2; clear hk hB2)
            go_ret2
            rw [HD.out.1]
            exact ⟨rfl, HD.out.2.1.trans ((HB1.out.trans (HB2.out.mono HB1.out.size)).mono HD.out.2.2)⟩
          | some x =>
            have kb := cdigit_kit b
            rw [ea] at ka
            have KA : Hid (Calls Tryz.prog 95 #[.int .u8 a.toNat] wr fun e w' => e = .returned (.tuple #[.int .u8 x, .bool true]) ∧ Below wr.heap.size wr w') := ka
            cases eb : hvU b with
            | none =>
              have hbd := hU.bad h37 (by rw [KS.out.2]; exact h2b) (.inr (hb ▸ eb))
              rw [eb] at kb
              have KB : Hid (∀ w1, Calls Tryz.prog 95 #[.int .u8 b.toNat] w1 fun e w' => e = .returned (.tuple #[.int .u8 0, .bool false]) ∧ Below w1.heap.size w1 w') := kb
              have HD : Hid (unescL t = none ∧ Below w.heap.size w wr ∧ w.heap.size ≤ wr.heap.size) := ⟨hbd, hB, hsz⟩
              clear hU hI hB hle hbd at_ h37 ka kb ha hb ea eb h2a h2b hol hsz
              go_wp2_with first
                | (go_at_call 95; refine KA.out.mono ?_; rintro e w1 ⟨rfl, hB1⟩; have HB1 : Hid (Below wr.heap.size wr w1) := hB1; clear hB1 KA)
                | (go_at_call 95; refine (KB.out w1).mono ?_; rintro e w2 ⟨rfl, hB2⟩; have HB2 : Hid (Below w1.heap.size w1 w2) := hB2; clear hB2 KB)
              go_ret2
              rw [HD.out.1]
              exact ⟨rfl, HD.out.2.1.trans ((HB1.out.trans (HB2.out.mono HB1.out.size)).mono HD.out.2.2)⟩
            | some y =>
              have hnx := hU.three h37 (by rw [KS.out.2]; exact h2b) (ha ▸ ea) (hb ▸ eb)
              rw [eb] at kb
              have hx16 := hvU_lt ea
              have hy16 := hvU_lt eb
              have KB : Hid (∀ w1, Calls Tryz.prog 95 #[.int .u8 b.toNat] w1 fun e w' => e = .returned (.tuple #[.int .u8 y, .bool true]) ∧ Below w1.heap.size w1 w') := kb
              have HD : Hid (UsI t (i + 3) (out ++ [UInt8.ofNat (16 * x + y)]) ∧ Below w.heap.size w wr ∧ w.heap.size ≤ wr.heap.size ∧ IsB w.heap.size w.heap.size out wr ∧ out.length + 1 ≤ 140737488355328 ∧ x < 16 ∧ y < 16) := ⟨hnx, hB, hsz, hI, hol, hx16, hy16⟩
              clear hU hI hB hle hnx at_ h37 ka kb ha hb ea eb h2a h2b hol hsz hx16 hy16
              go_wp2_with first
                | (go_at_call 95; refine KA.out.mono ?_; rintro e w1 ⟨rfl, hB1⟩; have HB1 : Hid (Below wr.heap.size wr w1) := hB1; clear hB1 KA)
                | (go_at_call 95; refine (KB.out w1).mono ?_; rintro e w2 ⟨rfl, hB2⟩; have HB2 : Hid (Below w1.heap.size w1 w2) := hB2; clear hB2 KB)
                | (go_at_call 94; rw [orXY HD.out.2.2.2.2.2.1 HD.out.2.2.2.2.2.2]; refine (wbyte w.heap.size w.heap.size out _ w2 (isB_below (isB_below HD.out.2.2.2.1 HB1.out) HB2.out) HD.out.2.2.2.2.1 (Nat.le_trans HD.out.2.2.1 (Nat.le_trans HB1.out.size HB2.out.size))).mono ?_; rintro e w3 ⟨rfl, hI3, hB3⟩; have HB3 : Hid (Below w.heap.size w2 w3 ∧ IsB w.heap.size w.heap.size (out ++ [UInt8.ofNat (16 * x + y)]) w3) := ⟨hB3, hI3⟩; clear hB3 hI3)
              refine ⟨⟨i + 3, out ++ [UInt8.ofNat (16 * x + y)], ?_, HD.out.1, HB3.out.2, ?_⟩, ?_⟩
              · simp; try omega
              · exact (HD.out.2.1.trans ((HB1.out.trans (HB2.out.mono HB1.out.size)).mono HD.out.2.2.1)).trans HB3.out.1
              · simp; omega
      · have hcne : ((c.toNat : Int) != 37) = true := by
          rw [bne_iff_ne]; intro e; exact hc (UInt8.toNat_inj.1 (Int.ofNat_inj.1 e))
        have HD : Hid (UsI t i out ∧ IsB w.heap.size w.heap.size out wr ∧ Below w.heap.size w wr ∧ c = t.getD i 0 ∧ c ≠ 37) := ⟨hU, hI, hB, hcc, hc⟩
        clear hU hI hB hle at_ hcc hc
        go_wp2_with (go_at_call 94; refine (wbyte w.heap.size w.heap.size out c wr HD.out.2.1 hol hsz).mono ?_; rintro e w1 ⟨rfl, hI1, hB1⟩)
        obtain ⟨d1, d2, d3, d4, d5⟩ := HD.out
        refine ⟨⟨i + 1, out ++ [c], by simp, ?_, hI1, d3.trans (hB1.mono (Nat.le_refl _))⟩, by simp; omega⟩
        rw [d4] at d5 ⊢
        exact d1.one (by rw [KS.out.2]; exact hi) d5
    · have hin : i = n := by
        have := hU.le; rw [KS.out.2] at this; omega
      subst hin
      have hdone := hU.done (by rw [KS.out.2]; exact Nat.le_refl _)
      have hsz : w.heap.size ≤ wr.heap.size := hB.size
      have HD : Hid (unescL t = some out ∧ IsB w.heap.size w.heap.size out wr ∧ Below w.heap.size w wr) := ⟨hdone, hI, hB⟩
      clear hU hI hB hdone
      go_wp2_with (go_at_call 61; refine (Tryz.Builder_String_any w.heap.size w.heap.size out wr HD.out.2.1 hsz).mono ?_; rintro e w1 ⟨rfl, hB1⟩)
      go_ret2
      rw [HD.out.1]
      exact ⟨rfl, HD.out.2.2.trans hB1⟩
end Go.Proofs.YtnohmijdpmelpaaGreat
