/- Chars.Escape, walked. -/
import Derived.Test.YtnohmijdpmelpaaGreatUne
import Derived.BigQuiet
import Derived.Deep.QuietTactic
import Derived.WalkSpells
import Derived.StillTailTactics
set_option maxRecDepth 100000
namespace Go.Proofs.YtnohmijdpmelpaaGreat
open Go Go.Am Go.RowKit
abbrev HEX : ByteArray := ⟨#[48, 49, 50, 51, 52, 53, 54, 55, 56, 57, 65, 66, 67, 68, 69, 70]⟩
theorem hx_at : ∀ x : Fin 16, HEX.extract x.val (x.val + 1) = (⟨#[HXU.getD x.val 0]⟩ : ByteArray) := by decide +kernel
theorem hx_and (c : UInt8) : bits .and .u8 (c.toNat : Int) 15 = ((c.toNat % 16 : Nat) : Int) := by
  have : ∀ c : Fin 256, bits .and .u8 (c.val : Int) 15 = ((c.val % 16 : Nat) : Int) := by decide +kernel
  exact this ⟨c.toNat, c.toNat_lt⟩
theorem hx_facts (c : UInt8) : 0 ≤ IntKind.u8.wrap ((c.toNat : Int) / 16 + 1) ∧ IntKind.u8.wrap ((c.toNat : Int) / 16 + 1) ≤ 16 ∧ 0 ≤ (c.toNat : Int) / 16 ∧ (c.toNat : Int) / 16 ≤ IntKind.u8.wrap ((c.toNat : Int) / 16 + 1) := by
  have := c.toNat_lt
  have e : IntKind.u8.wrap ((c.toNat : Int) / 16 + 1) = (c.toNat : Int) / 16 + 1 := by simp [IntKind.wrap, IntKind.bits, IntKind.signed]; omega
  rw [e]; omega
theorem hx_facts2 (c : UInt8) : 0 ≤ IntKind.u8.wrap (bits .and .u8 (c.toNat : Int) 15 + 1) ∧ IntKind.u8.wrap (bits .and .u8 (c.toNat : Int) 15 + 1) ≤ 16 ∧ 0 ≤ bits .and .u8 (c.toNat : Int) 15 ∧ bits .and .u8 (c.toNat : Int) 15 ≤ IntKind.u8.wrap (bits .and .u8 (c.toNat : Int) 15 + 1) := by
  rw [hx_and c]
  have e : IntKind.u8.wrap (((c.toNat % 16 : Nat) : Int) + 1) = ((c.toNat % 16 : Nat) : Int) + 1 := by simp [IntKind.wrap, IntKind.bits, IntKind.signed]; omega
  rw [e]; omega
theorem hx_n1 (c : UInt8) : ¬ 9223372036854775807 < 1 + ((IntKind.u8.wrap ((c.toNat : Int) / 16 + 1)).toNat - ((c.toNat : Int) / 16).toNat) := by
  have := hx_facts c; omega
theorem hx_n2 (c : UInt8) : ¬ 9223372036854775807 < 1 + ((IntKind.u8.wrap ((c.toNat : Int) / 16 + 1)).toNat - ((c.toNat : Int) / 16).toNat) + ((IntKind.u8.wrap (bits .and .u8 (c.toNat : Int) 15 + 1)).toNat - (bits .and .u8 (c.toNat : Int) 15).toNat) := by
  have := hx_facts c; have := hx_facts2 c; omega
theorem hx_e1 (c : UInt8) : (⟨#[48, 49, 50, 51, 52, 53, 54, 55, 56, 57, 65, 66, 67, 68, 69, 70]⟩ : ByteArray).extract ((c.toNat : Int) / 16).toNat (IntKind.u8.wrap ((c.toNat : Int) / 16 + 1)).toNat = ⟨#[HXU.getD (c.toNat / 16) 0]⟩ := by
  have hc := c.toNat_lt
  have e : IntKind.u8.wrap ((c.toNat : Int) / 16 + 1) = (c.toNat : Int) / 16 + 1 := by simp [IntKind.wrap, IntKind.bits, IntKind.signed]; omega
  have h2 := hx_at ⟨c.toNat / 16, by omega⟩
  have e1 : ((c.toNat : Int) / 16).toNat = c.toNat / 16 := by omega
  have e2 : ((c.toNat : Int) / 16 + 1).toNat = c.toNat / 16 + 1 := by omega
  rw [e, e1, e2]; exact h2
theorem hx_e2 (c : UInt8) : (⟨#[48, 49, 50, 51, 52, 53, 54, 55, 56, 57, 65, 66, 67, 68, 69, 70]⟩ : ByteArray).extract (bits .and .u8 (c.toNat : Int) 15).toNat (IntKind.u8.wrap (bits .and .u8 (c.toNat : Int) 15 + 1)).toNat = ⟨#[HXU.getD (c.toNat % 16) 0]⟩ := by
  rw [hx_and c]
  have e : IntKind.u8.wrap (((c.toNat % 16 : Nat) : Int) + 1) = ((c.toNat % 16 : Nat) : Int) + 1 := by simp [IntKind.wrap, IntKind.bits, IntKind.signed]; omega
  have h2 := hx_at ⟨c.toNat % 16, by omega⟩
  have e2 : (((c.toNat % 16 : Nat) : Int) + 1).toNat = c.toNat % 16 + 1 := by omega
  rw [e, Int.toNat_natCast, e2]; exact h2
theorem cat3 (a b c : UInt8) : ((⟨#[a]⟩ : ByteArray) ++ ⟨#[b]⟩ ++ ⟨#[c]⟩) = ⟨[a, b, c].toArray⟩ := by
  apply ByteArray.ext
  simp [ByteArray.data_append]
theorem below_drew {B : Nat} {w W : World} (h : Below B w W) : Below B w W.drew := ⟨h.os, h.tape, h.output, h.size, h.block⟩
end Go.Proofs.YtnohmijdpmelpaaGreat
set_option maxRecDepth 100000
set_option linter.unusedVariables false
set_option linter.unusedSimpArgs false
set_option linter.unusedSectionVars false
namespace Go.Proofs.YtnohmijdpmelpaaGreat
open Go Go.Am Go.RowKit
attribute [local go_sem] Oper.semAt_some
theorem letter_kit (c : UInt8) (w : World) : Calls Tryz.prog 96 #[.int .u8 c.toNat] w fun e w' => e = .returned (.bool (alnum c)) ∧ Below w.heap.size w w' := by
  refine (fn_kit (letter_ok c) w (fun _ _ => False) (fun b o u h => h.elim) [.int .u8 c.toNat] rfl (fun i c x h1 h2 => ?_)).mono ?_
  · match i, h1, h2 with
    | 0, h1, h2 => simp at h1 h2; subst h1; subst h2; exact ⟨.int .., rfl⟩
    | i + 1, h1, _ => simp at h1
  · rintro e w' ⟨u, G', rfl, hr, hB, h3, h4⟩
    cases hr
    exact ⟨rfl, hB⟩
theorem wstr (B b : Nat) (l : List UInt8) (x : List UInt8) (w : World) (h : IsB B b l w) (hlen : l.length + x.length ≤ 140737488355328) (hBw : B ≤ w.heap.size) :
    Calls Tryz.prog 60 #[.pointer (some ⟨b, 0, none⟩), .string ⟨x.toArray⟩] w fun e w' => e = .returned (.tuple #[.int .i64 x.length, .nilIface]) ∧ IsB B b (l ++ x) w' ∧ Below B w w' := by
  refine (Any.Builder_WriteString Tryz.lays166 Tryz.Builder_Extra_B B b (Lib.byteCells l) ⟨x.toArray⟩ w h (by simpa [Lib.byteCells, ByteArray.size] using hlen) hBw).mono ?_
  rintro e w' ⟨rfl, h1, h2⟩
  refine ⟨rfl, ?_, h2⟩
  have : Lib.byteCells (l ++ x) = Lib.byteCells l ++ Lib.strCells ⟨x.toArray⟩ := by simp [Lib.byteCells, Lib.strCells]
  unfold IsB
  rw [this]; exact .inr h1
theorem idx_five (c : UInt8) : (Lib.indexByte ([45, 46, 95, 126] : List UInt8) c = -1 ∧ ([45, 46, 95, 126] : List UInt8).contains c = false) ∨ ((0 ≤ Lib.indexByte ([45, 46, 95, 126] : List UInt8) c ∧ Lib.indexByte ([45, 46, 95, 126] : List UInt8) c ≤ 3) ∧ ([45, 46, 95, 126] : List UInt8).contains c = true) := by
  have : ∀ c : Fin 256, (Lib.indexByte ([45, 46, 95, 126] : List UInt8) (UInt8.ofNat c.val) = -1 ∧ ([45, 46, 95, 126] : List UInt8).contains (UInt8.ofNat c.val) = false) ∨ ((0 ≤ Lib.indexByte ([45, 46, 95, 126] : List UInt8) (UInt8.ofNat c.val) ∧ Lib.indexByte ([45, 46, 95, 126] : List UInt8) (UInt8.ofNat c.val) ≤ 3) ∧ ([45, 46, 95, 126] : List UInt8).contains (UInt8.ofNat c.val) = true) := by decide +kernel
  have h := this ⟨c.toNat, c.toNat_lt⟩
  simpa using h
set_option maxHeartbeats 4000000 in
theorem esc_core (t : List UInt8) (sl : Bool) (n : Nat) (hn : t.length = n) (hs : n ≤ 16777216) (w : World) :
    Calls Tryz.prog 54 #[.string ⟨t.toArray⟩, .bool sl] w fun e w' => e = .returned (.string ⟨(escL t sl).toArray⟩) ∧ Below w.heap.size w w' := by
  obtain ⟨S, hSd⟩ : ∃ S : ByteArray, S = ⟨t.toArray⟩ := ⟨_, rfl⟩
  have hS : S.size = n := by rw [hSd, ← hn]; rfl
  rw [← hSd]
  have KS : Hid (S = ⟨t.toArray⟩ ∧ t.length = n) := ⟨hSd, hn⟩
  clear hSd hn
  go_enter Tryz.func54, Tryz.ntmps54
  go_wp2
  go_loopw [10] (fun v wr => ∃ (i : Nat), v = .int .i64 i ∧ i ≤ n ∧ IsB w.heap.size w.heap.size (escL (t.take i) sl) wr ∧ Below w.heap.size w wr)
    (fun v _ => match v with | .int _ i => n - i.toNat | _ => 0)
  case atStart => exact ⟨0, rfl, Nat.zero_le _, isB_new w, (Below.refl _ w).alloc (Nat.le_refl _) _⟩
  case round =>
    obtain ⟨i, rfl, hin, hI, hB⟩ := hrel
    by_cases hi : i < n
    · have hsz : w.heap.size ≤ wr.heap.size := hB.size
      have hiS : i < S.size := by omega
      have at_ : ∀ (j : Nat) (h : j < S.size), S[j]'h = t.getD j 0 := fun j h => by
        have h1 := KS.out.1; subst h1
        rw [List.getD_eq_getElem?_getD, List.getElem?_eq_getElem (show j < t.length from h)]; rfl
      have hSi := at_ i hiS
      obtain ⟨c, hcc⟩ : ∃ c, c = t.getD i 0 := ⟨_, rfl⟩
      rw [← hcc] at hSi
      have hel := escL_len sl (t.take i)
      rw [List.length_take] at hel
      have hst : escL (t.take (i + 1)) sl = escL (t.take i) sl ++ escB sl c := by rw [hcc]; exact esc_step (by rw [KS.out.2]; exact hi)
      have kl := letter_kit c
      cases hal : alnum c with
      | true =>
        rw [hal] at kl
        have hsf : escB sl c = [c] := esc_safe (by unfold safe; rw [hal]; rfl)
        rw [hsf] at hst
        have KL : Hid (∀ w, Calls Tryz.prog 96 #[.int .u8 c.toNat] w fun e w' => e = .returned (.bool true) ∧ Below w.heap.size w w') := kl
        have HD : Hid (escL (t.take (i + 1)) sl = escL (t.take i) sl ++ [c] ∧ IsB w.heap.size w.heap.size (escL (t.take i) sl) wr ∧ Below w.heap.size w wr ∧ w.heap.size ≤ wr.heap.size ∧ (escL (t.take i) sl).length + 1 ≤ 140737488355328) := ⟨hst, hI, hB, hsz, by omega⟩
        clear hst hI hB hsz hel kl hsf hal hcc at_
        go_wp2_with first
          | (go_at_call 96; refine (KL.out wr).mono ?_; rintro e w1 ⟨rfl, hB1⟩; have HB1 : Hid (Below wr.heap.size wr w1) := hB1; clear hB1 KL)
          | (go_at_call 94; refine (wbyte w.heap.size w.heap.size _ c w1 (isB_below HD.out.2.1 HB1.out) HD.out.2.2.2.2 (Nat.le_trans HD.out.2.2.2.1 HB1.out.size)).mono ?_; rintro e w2 ⟨rfl, hI2, hB2⟩; have HB2 : Hid (IsB w.heap.size w.heap.size (escL (t.take i) sl ++ [c]) w2 ∧ Below w.heap.size w1 w2) := ⟨hI2, hB2⟩; clear hI2 hB2)
        refine ⟨⟨i + 1, by simp, by omega, ?_, ?_⟩, by simp; omega⟩
        · rw [HD.out.1]; exact HB2.out.1
        · exact (HD.out.2.2.1.trans (HB1.out.mono HD.out.2.2.2.1)).trans HB2.out.2
      | false =>
        rw [hal] at kl
        have KL : Hid (∀ w, Calls Tryz.prog 96 #[.int .u8 c.toNat] w fun e w' => e = .returned (.bool false) ∧ Below w.heap.size w w') := kl
        obtain ⟨z, hz⟩ : ∃ z, z = Lib.indexByte ([45, 46, 95, 126] : List UInt8) c := ⟨_, rfl⟩
        have hz5 := idx_five c
        rw [← hz] at hz5
        have KI : Hid (∀ w, Calls Tryz.prog 97 #[.string ⟨#[45, 46, 95, 126]⟩, .int .u8 c.toNat] w fun e w' => e = .returned (.int .i64 z) ∧ w' = w) := fun w => by
          have h := Tryz.strings_IndexByte ⟨#[45, 46, 95, 126]⟩ c.toNat w
          have e : ((c.toNat : Int).toNat).toUInt8 = c := by simp
          rw [e] at h
          rw [hz]; exact h
        clear hz
        by_cases hsf0 : safe sl c = true
        · have hsf : escB sl c = [c] := esc_safe hsf0
          rw [hsf] at hst
          have HD : Hid (escL (t.take (i + 1)) sl = escL (t.take i) sl ++ [c] ∧ IsB w.heap.size w.heap.size (escL (t.take i) sl) wr ∧ Below w.heap.size w wr ∧ w.heap.size ≤ wr.heap.size ∧ (escL (t.take i) sl).length + 1 ≤ 140737488355328) := ⟨hst, hI, hB, hsz, by omega⟩
          have hdis : z = 0 ∨ z = 1 ∨ z = 2 ∨ z = 3 ∨ (z = -1 ∧ sl = true ∧ c = 47) := by
            unfold safe at hsf0
            rw [hal] at hsf0
            rcases hz5 with ⟨h1, h2⟩ | ⟨h1, h2⟩
            · rw [h2] at hsf0
              simp at hsf0
              exact .inr (.inr (.inr (.inr ⟨h1, hsf0.1, UInt8.toNat_inj.1 hsf0.2⟩)))
            · omega
          clear hst hI hB hsz hel kl hsf hsf0 hz5 hal hcc at_
          have fin : ∀ (w1 w2 : World), Hid (Below wr.heap.size wr w1) → Hid (IsB w.heap.size w.heap.size (escL (t.take i) sl ++ [c]) w2 ∧ Below w.heap.size w1 w2) → IsB w.heap.size w.heap.size (escL (t.take (i + 1)) sl) w2 ∧ Below w.heap.size w w2 := fun w1 w2 HB1 HB2 => by
            refine ⟨?_, (HD.out.2.2.1.trans (HB1.out.mono HD.out.2.2.2.1)).trans HB2.out.2⟩
            rw [HD.out.1]; exact HB2.out.1
          have HF : Hid (∀ (w1 w2 : World), Hid (Below wr.heap.size wr w1) → Hid (IsB w.heap.size w.heap.size (escL (t.take i) sl ++ [c]) w2 ∧ Below w.heap.size w1 w2) → IsB w.heap.size w.heap.size (escL (t.take (i + 1)) sl) w2 ∧ Below w.heap.size w w2) := fin
          have HS : Hid (∀ w1, Below wr.heap.size wr w1 → Calls Tryz.prog 94 #[.pointer (some ⟨w.heap.size, 0, none⟩), .int .u8 c.toNat] w1 fun e w' => e = .returned .nilIface ∧ IsB w.heap.size w.heap.size (escL (t.take i) sl ++ [c]) w' ∧ Below w.heap.size w1 w') := fun w1 h1 => wbyte w.heap.size w.heap.size (escL (t.take i) sl) c w1 (isB_below HD.out.2.1 h1) HD.out.2.2.2.2 (Nat.le_trans HD.out.2.2.2.1 h1.size)
          clear fin HD
          rcases hdis with rfl | rfl | rfl | rfl | ⟨rfl, hsl, h47⟩
          iterate 4
            · go_wp2_with first
                | (go_at_call 96; refine (KL.out wr).mono ?_; rintro e w1 ⟨rfl, hB1⟩; have HB1 : Hid (Below wr.heap.size wr w1) := hB1; clear hB1 KL)
                | (go_at_call 97; refine (KI.out w1).mono ?_; rintro e w1 ⟨rfl, rfl⟩; clear KI)
                | (go_at_call 94; refine (HS.out w1 HB1.out).mono ?_; rintro e w2 ⟨rfl, hI2, hB2⟩; have HB2 : Hid (IsB w.heap.size w.heap.size (escL (t.take i) sl ++ [c]) w2 ∧ Below w.heap.size w1 w2) := ⟨hI2, hB2⟩; clear hI2 hB2)
              exact ⟨⟨i + 1, by simp, by omega, HF.out w1 w2 HB1 HB2⟩, by simp; omega⟩
          · subst hsl; subst h47
            have hSn : (S[i]'hiS).toNat = 47 := by rw [hSi]; rfl
            have KL : Hid (∀ w, Calls Tryz.prog 96 #[.int .u8 47] w fun e w' => e = .returned (.bool false) ∧ Below w.heap.size w w') := KL
            have KI : Hid (∀ w, Calls Tryz.prog 97 #[.string ⟨#[45, 46, 95, 126]⟩, .int .u8 47] w fun e w' => e = .returned (.int .i64 (-1)) ∧ w' = w) := KI
            have HS : Hid (∀ w1, Below wr.heap.size wr w1 → Calls Tryz.prog 94 #[.pointer (some ⟨w.heap.size, 0, none⟩), .int .u8 47] w1 fun e w' => e = .returned .nilIface ∧ IsB w.heap.size w.heap.size (escL (t.take i) true ++ [47]) w' ∧ Below w.heap.size w1 w') := HS
            clear hSi
            go_wp2_with first
                | (go_at_call 96; refine (KL.out wr).mono ?_; rintro e w1 ⟨rfl, hB1⟩; have HB1 : Hid (Below wr.heap.size wr w1) := hB1; clear hB1)
                | (go_at_call 97; refine (KI.out w1).mono ?_; rintro e w1 ⟨rfl, rfl⟩)
                | (go_at_call 94; refine (HS.out w1 HB1.out).mono ?_; rintro e w2 ⟨rfl, hI2, hB2⟩; have HB2 : Hid (IsB w.heap.size w.heap.size (escL (t.take i) true ++ [47]) w2 ∧ Below w.heap.size w1 w2) := ⟨hI2, hB2⟩; clear hI2 hB2)
            exact ⟨⟨i + 1, by simp, by omega, HF.out w1 w2 HB1 HB2⟩, by simp; omega⟩
        · have hsf1 : safe sl c = false := by simpa using hsf0
          have hsf := esc_un hsf1
          rw [hsf] at hst
          have HD : Hid (escL (t.take (i + 1)) sl = escL (t.take i) sl ++ [37, HXU.getD (c.toNat / 16) 0, HXU.getD (c.toNat % 16) 0] ∧ IsB w.heap.size w.heap.size (escL (t.take i) sl) wr ∧ Below w.heap.size w wr ∧ w.heap.size ≤ wr.heap.size ∧ (escL (t.take i) sl).length + 3 ≤ 140737488355328) := ⟨hst, hI, hB, hsz, by omega⟩
          have hdis : z = -1 ∧ (sl = false ∨ (sl = true ∧ ((c.toNat : Int) == 47) = false)) := by
            unfold safe at hsf1
            rw [hal] at hsf1
            rcases hz5 with ⟨h1, h2⟩ | ⟨h1, h2⟩
            · rw [h2] at hsf1
              refine ⟨h1, ?_⟩
              cases sl with
              | false => exact .inl rfl
              | true =>
                refine .inr ⟨rfl, ?_⟩
                rw [beq_eq_false_iff_ne]
                simp at hsf1
                omega
            · rw [h2] at hsf1; simp at hsf1
          have HF : Hid (∀ (w1 w2 : World), Hid (Below wr.heap.size wr w1) → Hid (IsB w.heap.size w.heap.size (escL (t.take i) sl ++ [37, HXU.getD (c.toNat / 16) 0, HXU.getD (c.toNat % 16) 0]) w2 ∧ Below w.heap.size w1.drew w2) → IsB w.heap.size w.heap.size (escL (t.take (i + 1)) sl) w2 ∧ Below w.heap.size w w2) := fun w1 w2 HB1 HB2 => by
            refine ⟨?_, (HD.out.2.2.1.trans ((below_drew HB1.out).mono HD.out.2.2.2.1)).trans HB2.out.2⟩
            rw [HD.out.1]; exact HB2.out.1
          obtain ⟨E, hE⟩ : ∃ E : ByteArray, E = ⟨#[37]⟩ ++ (⟨#[48, 49, 50, 51, 52, 53, 54, 55, 56, 57, 65, 66, 67, 68, 69, 70]⟩ : ByteArray).extract ((c.toNat : Int) / 16).toNat (IntKind.u8.wrap ((c.toNat : Int) / 16 + 1)).toNat ++ (⟨#[48, 49, 50, 51, 52, 53, 54, 55, 56, 57, 65, 66, 67, 68, 69, 70]⟩ : ByteArray).extract (bits .and .u8 (c.toNat : Int) 15).toNat (IntKind.u8.wrap (bits .and .u8 (c.toNat : Int) 15 + 1)).toNat := ⟨_, rfl⟩
          have HE : Hid (E = ⟨#[37]⟩ ++ (⟨#[48, 49, 50, 51, 52, 53, 54, 55, 56, 57, 65, 66, 67, 68, 69, 70]⟩ : ByteArray).extract ((c.toNat : Int) / 16).toNat (IntKind.u8.wrap ((c.toNat : Int) / 16 + 1)).toNat ++ (⟨#[48, 49, 50, 51, 52, 53, 54, 55, 56, 57, 65, 66, 67, 68, 69, 70]⟩ : ByteArray).extract (bits .and .u8 (c.toNat : Int) 15).toNat (IntKind.u8.wrap (bits .and .u8 (c.toNat : Int) 15 + 1)).toNat) := hE
          have HS : Hid (∀ w1, Hid (Below wr.heap.size wr w1) → Calls Tryz.prog 60 #[.pointer (some ⟨w.heap.size, 0, none⟩), .string E] w1.drew fun e w' => e = .returned (.tuple #[.int .i64 3, .nilIface]) ∧ Hid (IsB w.heap.size w.heap.size (escL (t.take i) sl ++ [37, HXU.getD (c.toNat / 16) 0, HXU.getD (c.toNat % 16) 0]) w' ∧ Below w.heap.size w1.drew w')) := fun w1 h1 => by
            rw [hE, hx_e1, hx_e2, cat3]
            refine (wstr w.heap.size w.heap.size (escL (t.take i) sl) [37, HXU.getD (c.toNat / 16) 0, HXU.getD (c.toNat % 16) 0] w1.drew (isB_below HD.out.2.1 (below_drew h1.out)) HD.out.2.2.2.2 (Nat.le_trans HD.out.2.2.2.1 h1.out.size)).mono ?_
            rintro e w2 ⟨rfl, h2, h3⟩
            exact ⟨rfl, h2, h3⟩
          clear hst hI hB hsz hel kl hsf hsf0 hsf1 hz5 hal hcc at_ HD hE
          obtain ⟨rfl, hdis⟩ := hdis
          rcases hdis with rfl | ⟨rfl, h47⟩
          all_goals
            go_wp2_with first
              | (go_at_call 96; refine (KL.out wr).mono ?_; rintro e w1 ⟨rfl, hB1⟩; have HB1 : Hid (Below wr.heap.size wr w1) := hB1; clear hB1)
              | (go_at_call 97; refine (KI.out w1).mono ?_; rintro e w1 ⟨rfl, rfl⟩)
            obtain ⟨a1, a2, a3, a4⟩ := hx_facts c
            obtain ⟨b1, b2, b3, b4⟩ := hx_facts2 c
            have n1 := hx_n1 c
            have n2 := hx_n2 c
            go_still_tail 14, (by kernel_rfl)
            clear a1 a2 a3 a4 b1 b2 b3 b4 n1 n2
            rw [← HE.out]
            change wpList _ _ _ _ _ w1.drew
            have HT := HS.out w1 HB1
            clear HS
            go_wp2_with first
              | (go_at_call 60; refine HT.mono ?_; rintro e w2 ⟨rfl, HB2⟩; clear HT)
            exact ⟨⟨i + 1, by simp, by omega, HF.out w1 w2 HB1 HB2⟩, by simp; omega⟩
    · have hie : i = n := by omega
      subst hie
      have hsz : w.heap.size ≤ wr.heap.size := hB.size
      rw [List.take_of_length_le (by rw [KS.out.2]; exact Nat.le_refl _)] at hI
      have HD : Hid (IsB w.heap.size w.heap.size (escL t sl) wr ∧ Below w.heap.size w wr ∧ w.heap.size ≤ wr.heap.size) := ⟨hI, hB, hsz⟩
      clear hI hB hsz
      go_wp2_with (go_at_call 61; refine (Tryz.Builder_String_any w.heap.size w.heap.size (escL t sl) wr HD.out.1 HD.out.2.2).mono ?_; rintro e w1 ⟨rfl, hB1⟩)
      go_ret
      exact ⟨rfl, HD.out.2.1.trans hB1⟩
end Go.Proofs.YtnohmijdpmelpaaGreat
