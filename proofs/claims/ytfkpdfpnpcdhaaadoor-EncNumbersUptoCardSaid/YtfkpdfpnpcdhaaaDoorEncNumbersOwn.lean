/- The law EncNumbers returns true and leaves its input as it was, its package-level variables laid as the program's text lays them. The condition: the bulk of what is handed in is at most 1048576. -/
import Derived.Test.YtfkpdfpnpcdhaaaDoorCards
import Derived.Test.YtfkpdfpnpcdhaaaDoorTie
import Derived.Deep.DeepHandedRow
import Derived.Lib.LaidTab
import Derived.Stop.LaidErr
import Derived.Test.YtfkpdfpnpcdhaaaDoorAm29
import Derived.Test.YtfkpdfpnpcdhaaaDoorShelf
set_option maxRecDepth 100000
set_option linter.unusedVariables false
set_option linter.unusedSimpArgs false
namespace Go.Proofs.YtfkpdfpnpcdhaaaDoor
open Go.Am
theorem one_le {H : Type} (d : DataW H) : 1 ≤ Rows.uptoBulk d := by
  cases d with
  | lit l => cases l <;> simp [Rows.uptoBulk]
  | _ => simp [Rows.uptoBulk]
theorem length_le {H : Type} (l : List (DataW H)) : l.length ≤ Rows.uptoBulkAll l := by
  induction l with
  | nil => simp [Rows.uptoBulkAll]
  | cons x r ih => have := one_le x; simp only [Rows.uptoBulkAll, List.length_cons]; omega

instance : Tab := ⟨fun b => if b = 0 then some ((Lib.pow10Tab.map fun z => Value.int .u64 z).toArray) else none⟩
theorem tab_is {G : Gh} {w : World} (h : WI G w) : Lib.TabIs Tryd.prog w "internal/strconv.uint64pow10" .u64 Lib.pow10Tab := by
  obtain ⟨⟨e, fz, h1⟩, _⟩ := h.tab 0 _ rfl
  unfold Lib.TabIs World.var?
  rw [show Tryd.prog.globalNamed "internal/strconv.uint64pow10" = some 0 by kernel_rfl]
  simp only [Option.bind_some, h1]
theorem itoa_ok (n : Int) (h0 : -9223372036854775808 ≤ n) (h1 : n ≤ 9223372036854775807) : FnOK Tryd.prog 24 [.int .i64 n] [] (.str (Lib.itoa n)) [] := by
  refine FnOK.of_below rfl fun w G vs hl ha hw => ?_
  obtain ⟨v, rfl⟩ : ∃ v, vs = [v] := by
    match vs, hl with
    | [v], _ => exact ⟨v, rfl⟩
  have hv := ha 0 _ v rfl rfl
  cases hv
  refine (Tryd.strconv_Itoa n h0 h1 w (tab_is hw)).mono ?_
  rintro e w' ⟨rfl, k, os, rfl⟩
  exact ⟨_, rfl, fun G w => .str .., ⟨rfl, rfl, rfl, by simp [Sort.grow], fun j hj => by show (w.heap ++ os)[j]? = _; rw [Array.getElem?_append_left hj]⟩⟩
def prEl (l : List Int) : Nat → AV := fun i => .agg [.int .i64 (l.getD i 0), .int .i64 (l.getD i 0)]
theorem pr_el : ∀ (l : List Int) (i : Nat), i < l.length → elOf true 2 (l.flatMap fun k => [AV.int .i64 k, AV.int .i64 k]) i = prEl l i
  | [], i, h => absurd h (Nat.not_lt_zero _)
  | a :: l, 0, _ => rfl
  | a :: l, i + 1, h => by
    have := pr_el l i (by simpa using h)
    unfold elOf prEl at this ⊢
    simp only [cond_true, AV.agg.injEq, List.flatMap_cons] at this ⊢
    rw [show (i + 1) * 2 = i * 2 + 2 by omega]
    simpa using this
theorem pr_app (l r : List Int) (i : Nat) : apEl l.length (prEl l) (prEl r) i = prEl (l ++ r) i := by
  rcases Nat.lt_or_ge i l.length with h | h
  · rw [apEl_lt h]; unfold prEl; simp [List.getD_eq_getElem?_getD, List.getElem?_append_left h]
  · rw [apEl_ge h]; unfold prEl; simp [List.getD_eq_getElem?_getD, List.getElem?_append_right h]
def errL : List Int := [0, 1, 2, 50, 60, 61, 62, 130, 300, 301, 302, 303, 304, 305, 306, 307, 308, 309, 310, 311, 312, 313, 314, 315, 316, 317, 318, 319, 320, 321, 322, 323, 324, 325, 326, 327, 328, 329, 330, 331, 332, 333, 334, 335, 336, 337, 338, 339, 340, 341]
def restL : List Int := [253402300799, 256, 4096, 2048, 65536, 65536, 16, 8192, 65536, 100, 1048576, 10, 2048, 100, 10000, 16, 16, 1, 2, 1, 2, 3, 1, 2, 3, 4, 5, 6, 7, 8, 9, 10, 11, 12, 13, 14, 15, 16, 17, 18, 19, 20, 21, 22, 23, 24, 25, 26, 27, 28]
theorem itoa130 : Lib.itoa 130 = [49, 51, 48] := by simp [Lib.itoa, Lib.decDigits]
theorem itoa0 : Lib.itoa 0 = [48] := by simp [Lib.itoa, Lib.decDigits]


def HX : List UInt8 := [48, 49, 50, 51, 52, 53, 54, 55, 56, 57, 97, 98, 99, 100, 101, 102]
def hxd (d : Nat) : UInt8 := HX.getD d 0
def hexL (b : List UInt8) : List UInt8 := b.flatMap fun c => [hxd (c.toNat / 16), hxd (c.toNat % 16)]
def hv (c : UInt8) : Option Nat := if 48 ≤ c.toNat ∧ c.toNat ≤ 57 then some (c.toNat - 48) else if 97 ≤ c.toNat ∧ c.toNat ≤ 102 then some (c.toNat - 87) else none
def unhexL : List UInt8 → Option (List UInt8)
  | [] => some []
  | [_] => none
  | a :: b :: r => match hv a, hv b, unhexL r with
    | some x, some y, some l => some (UInt8.ofNat (16 * x + y) :: l)
    | _, _, _ => none
def fnd : List UInt8 → UInt8 → Option Nat
  | [], _ => none
  | x :: r, c => if x = c then some 0 else (fnd r c).map (· + 1)
def fndI (s : List UInt8) (c : UInt8) : Int := match fnd s c with
  | some i => i
  | none => -1
theorem hexL_length (b : List UInt8) : (hexL b).length = 2 * b.length := by
  induction b with
  | nil => rfl
  | cons x xs ih => simp [hexL, List.flatMap_cons] at *; omega
theorem rdigit_eq (d : Nat) (h : d < 16) : (HX.take ((d : Int) + 1).toNat).drop (d : Int).toNat = [hxd d] := by
  have : ∀ d : Fin 16, (HX.take ((d.val : Int) + 1).toNat).drop (d.val : Int).toNat = [hxd d.val] := by decide
  exact this ⟨d, h⟩
theorem shr4 (x : Nat) : (x : Int).fdiv (2 ^ min (Int.toNat 4) IntKind.u8.bits) = ((x / 16 : Nat) : Int) := by
  show (x : Int).fdiv 16 = _
  rw [Int.fdiv_eq_ediv_of_nonneg _ (by decide)]; rfl
theorem and15 (c : UInt8) : bitsE .and .u8 (c.toNat : Int) 15 = ((c.toNat % 16 : Nat) : Int) := by
  have := (Go.Am.bits_nat .u8 (a := c.toNat) (b := 15) c.toNat_lt (by decide) rfl).1
  rw [show ((15 : Nat) : Int) = 15 from rfl] at this
  rw [this, show c.toNat &&& 15 = c.toNat % 16 from Nat.and_two_pow_sub_one_eq_mod c.toNat 4]
theorem u8b (c : UInt8) : (0 : Int) ≤ (c.toNat : Int) ∧ (c.toNat : Int) < 256 := by have := c.toNat_lt; omega
theorem toB_u8 (c : UInt8) : toB (c.toNat : Int) = c := by simp [toB]
theorem toB_ofNat (n : Nat) : toB (n : Int) = UInt8.ofNat n := by simp [toB]
theorem take_succ' {α : Type} (b : List α) (i : Nat) (d : α) (h : i < b.length) : b.take (i + 1) = b.take i ++ [b.getD i d] := by
  rw [List.take_add_one, List.getD_eq_getElem?_getD, List.getElem?_eq_getElem h]; rfl
theorem hex_step (b : List UInt8) (i : Nat) (h : i < b.length) : hexL (b.take i) ++ List.map toB [((HX.getD (((b.getD (i : Int).toNat 0).toNat / 16 : Nat) : Int).toNat 0).toNat : Int), ((HX.getD (((b.getD (i : Int).toNat 0).toNat % 16 : Nat) : Int).toNat 0).toNat : Int)] = hexL (b.take (i + 1)) := by
  rw [take_succ' b i 0 h]
  simp only [Int.toNat_natCast]
  simp [hexL, List.flatMap_append, toB_u8, hxd]
theorem rhex_step (b : List UInt8) (i : Nat) (h : i < b.length) : hexL (b.take i) ++ [hxd ((b.getD (i : Int).toNat 0).toNat / 16)] ++ [hxd ((b.getD (i : Int).toNat 0).toNat % 16)] = hexL (b.take (i + 1)) := by
  rw [take_succ' b i 0 h]
  simp only [Int.toNat_natCast]
  simp [hexL, List.flatMap_append]
theorem quo16 (c : UInt8) : IntKind.i64.wrap ((IntKind.i64.wrap (c.toNat : Int)).tdiv 16) = ((c.toNat / 16 : Nat) : Int) := by
  have := c.toNat_lt
  rw [i64_id (x := (c.toNat : Int)) (by omega) (by omega), show (16 : Int) = ((16 : Nat) : Int) from rfl, ← Int.ofNat_tdiv, i64_id (by omega) (by omega)]
theorem rem16 (c : UInt8) : (IntKind.i64.wrap (c.toNat : Int)).tmod 16 = ((c.toNat % 16 : Nat) : Int) := by
  have := c.toNat_lt
  rw [i64_id (x := (c.toNat : Int)) (by omega) (by omega)]; rfl
theorem hv_lt {c : UInt8} {x : Nat} (h : hv c = some x) : x < 16 := by
  unfold hv at h
  split at h
  · simp at h; omega
  · split at h
    · simp at h; omega
    · simp at h
theorem or4 {x y : Nat} (hx : x < 16) (hy : y < 16) : bitsE .or .u8 (IntKind.u8.wrap ((x : Int) * 2 ^ min (Int.toNat 4) IntKind.u8.bits)) (y : Int) = ((16 * x + y : Nat) : Int) := by
  have e : IntKind.u8.wrap ((x : Int) * 2 ^ min (Int.toNat 4) IntKind.u8.bits) = ((16 * x : Nat) : Int) := by
    show IntKind.u8.wrap ((x : Int) * 16) = _
    rw [wrap_u8]; omega
  rw [e, (Go.Am.bits_nat .u8 (a := 16 * x) (b := y) (show 16 * x < 256 by omega) (show y < 256 by omega) rfl).2.1]
  have := Nat.two_pow_add_eq_or_of_lt (i := 4) hy x
  rw [show (2 : Nat) ^ 4 = 16 from rfl] at this
  rw [this]
theorem drop2 (s : List UInt8) (i : Nat) (h : i + 1 < s.length) : s.drop i = s.getD i 0 :: s.getD (i + 1) 0 :: s.drop (i + 2) := by
  rw [List.drop_eq_getElem_cons (by omega : i < s.length), List.drop_eq_getElem_cons (by omega : i + 1 < s.length)]
  simp [List.getD_eq_getElem?_getD, List.getElem?_eq_getElem h, List.getElem?_eq_getElem (by omega : i < s.length)]
/-- so far -/
structure UnI (s : List UInt8) (i : Nat) (out : List UInt8) : Prop where
  le : i ≤ s.length
  ev : i % 2 = 0
  evs : s.length % 2 = 0
  len : out.length = i / 2
  eq : unhexL s = (unhexL (s.drop i)).map (out ++ ·)
theorem UnI.none1 {s i out} (h : UnI s i out) (hi : i < s.length) (e : hv (s.getD i 0) = none) : unhexL s = none := by
  have := h.ev; have := h.evs
  rw [h.eq, drop2 s i (by omega), unhexL, e]; rfl
theorem UnI.none2 {s i out} (h : UnI s i out) (hi : i < s.length) (e : hv (s.getD (i + 1) 0) = none) : unhexL s = none := by
  have := h.ev; have := h.evs
  rw [h.eq, drop2 s i (by omega), unhexL, e]
  cases hv (s.getD i 0) <;> rfl
theorem UnI.step {s i out x y} (h : UnI s i out) (hi : i < s.length) (e1 : hv (s.getD i 0) = some x) (e2 : hv (s.getD (i + 1) 0) = some y) : UnI s (i + 2) (out ++ [UInt8.ofNat (16 * x + y)]) := by
  have h1 := h.ev; have h2 := h.evs; have h3 := h.len
  refine ⟨by omega, by omega, h2, by simp; omega, ?_⟩
  rw [h.eq, drop2 s i (by omega), unhexL, e1, e2]
  cases unhexL (s.drop (i + 2)) <;> simp
theorem UnI.done {s i out} (h : UnI s i out) (hi : s.length ≤ i) : unhexL s = some out := by
  rw [h.eq, List.drop_eq_nil_of_le hi, unhexL]; simp
theorem UnI.start {s : List UInt8} (h : s.length % 2 = 0) : UnI s 0 [] := ⟨by omega, rfl, h, rfl, by simp⟩
theorem unhex_odd : ∀ {s : List UInt8}, s.length % 2 = 1 → unhexL s = none
  | [], h => by simp at h
  | [_], h => rfl
  | a :: b :: r, h => by
    rw [unhexL, unhex_odd (s := r) (by simp at h; omega)]
    cases hv a <;> cases hv b <;> rfl
theorem fnd_hv (c : UInt8) : fnd HX c = hv c := by
  have : ∀ n : Fin 256, fnd HX (UInt8.ofNat n.val) = hv (UInt8.ofNat n.val) := by decide
  have h := this ⟨c.toNat, c.toNat_lt⟩
  simpa using h
structure FdI (s : List UInt8) (c : UInt8) (i : Nat) : Prop where
  le : i ≤ s.length
  eq : fnd s c = (fnd (s.drop i) c).map (· + i)
theorem FdI.hit {s c i} (h : FdI s c i) (hi : i < s.length) (e : s.getD i 0 = c) : fndI s c = i := by
  unfold fndI
  rw [h.eq, List.drop_eq_getElem_cons hi, fnd]
  rw [List.getD_eq_getElem?_getD, List.getElem?_eq_getElem hi] at e
  simp at e
  simp [e]
theorem FdI.step {s c i} (h : FdI s c i) (hi : i < s.length) (e : s.getD i 0 ≠ c) : FdI s c (i + 1) := by
  refine ⟨by omega, ?_⟩
  rw [h.eq, List.drop_eq_getElem_cons hi, fnd]
  rw [List.getD_eq_getElem?_getD, List.getElem?_eq_getElem hi] at e
  simp at e
  rw [if_neg e, Option.map_map]
  congr 1; funext x; simp; omega
theorem FdI.done {s c i} (h : FdI s c i) (hi : s.length ≤ i) : fndI s c = -1 := by
  unfold fndI
  rw [h.eq, List.drop_eq_nil_of_le hi]; rfl
theorem fndI_hv (c : UInt8) : fndI HX c = match hv c with | some x => (x : Int) | none => -1 := by unfold fndI; rw [fnd_hv]
theorem fnd_some {c : UInt8} (h : 0 ≤ fndI HX c) : ∃ x, hv c = some x := by
  rw [fndI_hv] at h
  cases e : hv c with
  | none => rw [e] at h; simp at h
  | some x => exact ⟨x, rfl⟩
theorem fnd_none {c : UInt8} (h : fndI HX c < 0) : hv c = none := by
  rw [fndI_hv] at h
  cases e : hv c with
  | none => rfl
  | some x => rw [e] at h; simp only at h; omega
theorem i1 (i : Nat) (h : i ≤ 1048576) : (IntKind.i64.wrap ((i : Int) + 1)).toNat = i + 1 := by rw [i64_id (by omega) (by omega)]; omega
theorem u16xy {x y : Nat} (hx : x < 16) (hy : y < 16) : IntKind.u8.wrap (IntKind.i64.wrap (IntKind.i64.wrap (16 * (x : Int)) + (y : Int))) = ((16 * x + y : Nat) : Int) := by
  rw [i64_id (x := 16 * (x : Int)) (by omega) (by omega), i64_id (by omega) (by omega), u8_id (by omega) (by omega)]; omega

theorem rdigit_ok (d : Nat) (h : d < 16) : FnOK Tryd.prog 25 [.int .i64 d] [] (.str [hxd d]) [] := by
  refine FnOK.of_runs Tryd.func25 rfl (Nat.le_of_ble_eq_true rfl) ?_
  refine Runs.seq ?_
  refine Runs.reg [] [] rfl (by (try simp only [wrap_i64', wrap_u8, wrap_u16, wrap_u32, wrap_u64, wrap_i32, List.length_cons, List.length_nil, List.length_append, List.length_map, tmodN, tdivN]); and_intros <;> first | exact True.intro | omega | skip) ?_
  refine Runs.seq ?_
  refine Runs.reg [] [0, 1] rfl (by (try simp only [wrap_i64', wrap_u8, wrap_u16, wrap_u32, wrap_u64, wrap_i32, List.length_cons, List.length_nil, List.length_append, List.length_map, tmodN, tdivN]); and_intros <;> first | exact True.intro | omega | skip) ?_
  exact Runs.retH Tryd.func25 rfl rfl (by rw [i64_id (by omega) (by omega)]; exact congrArg AV.str (rdigit_eq d h)) (by rfl)

theorem digit_ok (c : UInt8) : FnOK Tryd.prog 26 [.int .u8 c.toNat] [] (.tup [.int .u8 ((hv c).getD 0 : Nat), .bool (hv c).isSome]) [] := by
  refine FnOK.of_runs Tryd.func26 rfl (Nat.le_of_ble_eq_true rfl) ?_
  refine Runs.seq ?_
  refine Runs.reg [] [] rfl (by (try simp only [wrap_i64', wrap_u8, wrap_u16, wrap_u32, wrap_u64, wrap_i32, List.length_cons, List.length_nil, List.length_append, List.length_map, tmodN, tdivN]); and_intros <;> first | exact True.intro | omega | skip) ?_
  refine Runs.seq ?_
  refine Runs.block ?_
  refine Runs.seq ?_
  refine Runs.region ?_
  refine Runs.restTo 3 [] [0, 3] rfl (by (try simp only [wrap_i64', wrap_u8, wrap_u16, wrap_u32, wrap_u64, wrap_i32, List.length_cons, List.length_nil, List.length_append, List.length_map, tmodN, tdivN]); and_intros <;> first | exact True.intro | omega | skip) ?_
  refine Runs.splitS 7 rfl (fun g7 => ?_) (fun g7 => ?_)
  · try simp only [decide_eq_true_eq, decide_eq_false_iff_not, notT, notF, beq_iff_eq, beq_eq_false_iff_ne, bne_iff_ne, bne_eq_false_iff_eq, tmodN, tdivN, Int.not_lt, Int.not_le] at g7
    refine Runs.rest [] [0, 3] rfl (by (try simp only [wrap_i64', wrap_u8, wrap_u16, wrap_u32, wrap_u64, wrap_i32, List.length_cons, List.length_nil, List.length_append, List.length_map, tmodN, tdivN]); and_intros <;> first | exact True.intro | omega | skip) ?_
    refine Runs.condS rfl (fun g4 => ?_) (fun g4 => ?_)
    · try simp only [decide_eq_true_eq, decide_eq_false_iff_not, notT, notF, beq_iff_eq, beq_eq_false_iff_ne, bne_iff_ne, bne_eq_false_iff_eq, tmodN, tdivN, Int.not_lt, Int.not_le] at g4
      refine Runs.seq ?_
      refine Runs.reg [] [0] rfl (by (try simp only [wrap_i64', wrap_u8, wrap_u16, wrap_u32, wrap_u64, wrap_i32, List.length_cons, List.length_nil, List.length_append, List.length_map, tmodN, tdivN]); and_intros <;> first | exact True.intro | omega | skip) ?_
      exact Runs.retH Tryd.func26 rfl rfl (by have := u8lt c; simp only [hv]; (try simp only [wrap_u8]); (repeat' split) <;> first | (exfalso; omega) | (simp <;> omega)) (by rfl)
    · try simp only [decide_eq_true_eq, decide_eq_false_iff_not, notT, notF, beq_iff_eq, beq_eq_false_iff_ne, bne_iff_ne, bne_eq_false_iff_eq, tmodN, tdivN, Int.not_lt, Int.not_le] at g4
      refine Runs.seq ?_
      refine Runs.region ?_
      refine Runs.restTo 3 [] [0, 3] rfl (by (try simp only [wrap_i64', wrap_u8, wrap_u16, wrap_u32, wrap_u64, wrap_i32, List.length_cons, List.length_nil, List.length_append, List.length_map, tmodN, tdivN]); and_intros <;> first | exact True.intro | omega | skip) ?_
      refine Runs.splitS 16 rfl (fun g16 => ?_) (fun g16 => ?_)
      · try simp only [decide_eq_true_eq, decide_eq_false_iff_not, notT, notF, beq_iff_eq, beq_eq_false_iff_ne, bne_iff_ne, bne_eq_false_iff_eq, tmodN, tdivN, Int.not_lt, Int.not_le] at g16
        refine Runs.rest [] [0, 3] rfl (by (try simp only [wrap_i64', wrap_u8, wrap_u16, wrap_u32, wrap_u64, wrap_i32, List.length_cons, List.length_nil, List.length_append, List.length_map, tmodN, tdivN]); and_intros <;> first | exact True.intro | omega | skip) ?_
        refine Runs.condS rfl (fun g13 => ?_) (fun g13 => ?_)
        · try simp only [decide_eq_true_eq, decide_eq_false_iff_not, notT, notF, beq_iff_eq, beq_eq_false_iff_ne, bne_iff_ne, bne_eq_false_iff_eq, tmodN, tdivN, Int.not_lt, Int.not_le] at g13
          refine Runs.seq ?_
          refine Runs.reg [] [0] rfl (by (try simp only [wrap_i64', wrap_u8, wrap_u16, wrap_u32, wrap_u64, wrap_i32, List.length_cons, List.length_nil, List.length_append, List.length_map, tmodN, tdivN]); and_intros <;> first | exact True.intro | omega | skip) ?_
          exact Runs.retH Tryd.func26 rfl rfl (by have := u8lt c; simp only [hv]; (try simp only [wrap_u8]); (repeat' split) <;> first | (exfalso; omega) | (simp <;> omega)) (by rfl)
        · try simp only [decide_eq_true_eq, decide_eq_false_iff_not, notT, notF, beq_iff_eq, beq_eq_false_iff_ne, bne_iff_ne, bne_eq_false_iff_eq, tmodN, tdivN, Int.not_lt, Int.not_le] at g13
          refine Runs.skip ?_
          refine Runs.inBlock ?_
          refine Runs.seq ?_
          refine Runs.reg [] [] rfl (by (try simp only [wrap_i64', wrap_u8, wrap_u16, wrap_u32, wrap_u64, wrap_i32, List.length_cons, List.length_nil, List.length_append, List.length_map, tmodN, tdivN]); and_intros <;> first | exact True.intro | omega | skip) ?_
          exact Runs.retH Tryd.func26 rfl rfl (by have := u8lt c; simp only [hv]; (try simp only [wrap_u8]); (repeat' split) <;> first | (exfalso; omega) | (simp <;> omega)) (by rfl)
      · try simp only [decide_eq_true_eq, decide_eq_false_iff_not, notT, notF, beq_iff_eq, beq_eq_false_iff_ne, bne_iff_ne, bne_eq_false_iff_eq, tmodN, tdivN, Int.not_lt, Int.not_le] at g16
        refine Runs.rest [] [0, 3] rfl (by (try simp only [wrap_i64', wrap_u8, wrap_u16, wrap_u32, wrap_u64, wrap_i32, List.length_cons, List.length_nil, List.length_append, List.length_map, tmodN, tdivN]); and_intros <;> first | exact True.intro | omega | skip) ?_
        refine Runs.condF rfl ?_
        refine Runs.skip ?_
        refine Runs.inBlock ?_
        refine Runs.seq ?_
        refine Runs.reg [] [] rfl (by (try simp only [wrap_i64', wrap_u8, wrap_u16, wrap_u32, wrap_u64, wrap_i32, List.length_cons, List.length_nil, List.length_append, List.length_map, tmodN, tdivN]); and_intros <;> first | exact True.intro | omega | skip) ?_
        exact Runs.retH Tryd.func26 rfl rfl (by have := u8lt c; simp only [hv]; (try simp only [wrap_u8]); (repeat' split) <;> first | (exfalso; omega) | (simp <;> omega)) (by rfl)
  · try simp only [decide_eq_true_eq, decide_eq_false_iff_not, notT, notF, beq_iff_eq, beq_eq_false_iff_ne, bne_iff_ne, bne_eq_false_iff_eq, tmodN, tdivN, Int.not_lt, Int.not_le] at g7
    refine Runs.rest [] [0, 3] rfl (by (try simp only [wrap_i64', wrap_u8, wrap_u16, wrap_u32, wrap_u64, wrap_i32, List.length_cons, List.length_nil, List.length_append, List.length_map, tmodN, tdivN]); and_intros <;> first | exact True.intro | omega | skip) ?_
    refine Runs.condF rfl ?_
    refine Runs.seq ?_
    refine Runs.region ?_
    refine Runs.restTo 3 [] [0, 3] rfl (by (try simp only [wrap_i64', wrap_u8, wrap_u16, wrap_u32, wrap_u64, wrap_i32, List.length_cons, List.length_nil, List.length_append, List.length_map, tmodN, tdivN]); and_intros <;> first | exact True.intro | omega | skip) ?_
    refine Runs.splitS 16 rfl (fun g16 => ?_) (fun g16 => ?_)
    · try simp only [decide_eq_true_eq, decide_eq_false_iff_not, notT, notF, beq_iff_eq, beq_eq_false_iff_ne, bne_iff_ne, bne_eq_false_iff_eq, tmodN, tdivN, Int.not_lt, Int.not_le] at g16
      refine Runs.rest [] [0, 3] rfl (by (try simp only [wrap_i64', wrap_u8, wrap_u16, wrap_u32, wrap_u64, wrap_i32, List.length_cons, List.length_nil, List.length_append, List.length_map, tmodN, tdivN]); and_intros <;> first | exact True.intro | omega | skip) ?_
      refine Runs.condS rfl (fun g13 => ?_) (fun g13 => ?_)
      · try simp only [decide_eq_true_eq, decide_eq_false_iff_not, notT, notF, beq_iff_eq, beq_eq_false_iff_ne, bne_iff_ne, bne_eq_false_iff_eq, tmodN, tdivN, Int.not_lt, Int.not_le] at g13
        refine Runs.seq ?_
        refine Runs.reg [] [0] rfl (by (try simp only [wrap_i64', wrap_u8, wrap_u16, wrap_u32, wrap_u64, wrap_i32, List.length_cons, List.length_nil, List.length_append, List.length_map, tmodN, tdivN]); and_intros <;> first | exact True.intro | omega | skip) ?_
        exact Runs.retH Tryd.func26 rfl rfl (by have := u8lt c; simp only [hv]; (try simp only [wrap_u8]); (repeat' split) <;> first | (exfalso; omega) | (simp <;> omega)) (by rfl)
      · try simp only [decide_eq_true_eq, decide_eq_false_iff_not, notT, notF, beq_iff_eq, beq_eq_false_iff_ne, bne_iff_ne, bne_eq_false_iff_eq, tmodN, tdivN, Int.not_lt, Int.not_le] at g13
        refine Runs.skip ?_
        refine Runs.inBlock ?_
        refine Runs.seq ?_
        refine Runs.reg [] [] rfl (by (try simp only [wrap_i64', wrap_u8, wrap_u16, wrap_u32, wrap_u64, wrap_i32, List.length_cons, List.length_nil, List.length_append, List.length_map, tmodN, tdivN]); and_intros <;> first | exact True.intro | omega | skip) ?_
        exact Runs.retH Tryd.func26 rfl rfl (by have := u8lt c; simp only [hv]; (try simp only [wrap_u8]); (repeat' split) <;> first | (exfalso; omega) | (simp <;> omega)) (by rfl)
    · try simp only [decide_eq_true_eq, decide_eq_false_iff_not, notT, notF, beq_iff_eq, beq_eq_false_iff_ne, bne_iff_ne, bne_eq_false_iff_eq, tmodN, tdivN, Int.not_lt, Int.not_le] at g16
      refine Runs.rest [] [0, 3] rfl (by (try simp only [wrap_i64', wrap_u8, wrap_u16, wrap_u32, wrap_u64, wrap_i32, List.length_cons, List.length_nil, List.length_append, List.length_map, tmodN, tdivN]); and_intros <;> first | exact True.intro | omega | skip) ?_
      refine Runs.condF rfl ?_
      refine Runs.skip ?_
      refine Runs.inBlock ?_
      refine Runs.seq ?_
      refine Runs.reg [] [] rfl (by (try simp only [wrap_i64', wrap_u8, wrap_u16, wrap_u32, wrap_u64, wrap_i32, List.length_cons, List.length_nil, List.length_append, List.length_map, tmodN, tdivN]); and_intros <;> first | exact True.intro | omega | skip) ?_
      exact Runs.retH Tryd.func26 rfl rfl (by have := u8lt c; simp only [hv]; (try simp only [wrap_u8]); (repeat' split) <;> first | (exfalso; omega) | (simp <;> omega)) (by rfl)

theorem unhex_ok (s : List UInt8) (hs : s.length ≤ 1048576) : FnOK Tryd.prog 14 [.str s] [] (.tup [.bs ((unhexL s).getD []) false, .bool (unhexL s).isSome]) [] := by
  refine FnOK.of_runs Tryd.func14 rfl (Nat.le_of_ble_eq_true rfl) ?_
  refine Runs.seq ?_
  refine Runs.reg [] [] rfl (by (try simp only [wrap_i64', wrap_u8, wrap_u16, wrap_u32, wrap_u64, wrap_i32, List.length_cons, List.length_nil, List.length_append, List.length_map, tmodN, tdivN]); and_intros <;> first | exact True.intro | omega | skip) ?_
  refine Runs.seq ?_
  refine Runs.seq ?_
  refine Runs.reg [] [0] rfl (by and_intros <;> first | exact True.intro | omega) ?_
  refine Runs.condS rfl (fun g13 => ?_) (fun g13 => ?_)
  · try simp only [decide_eq_true_eq, decide_eq_false_iff_not, notT, notF, beq_iff_eq, beq_eq_false_iff_ne, bne_iff_ne, bne_eq_false_iff_eq, tmodN, tdivN, Int.not_lt, Int.not_le] at g13
    refine Runs.seq ?_
    refine Runs.reg [] [] rfl (by (try simp only [wrap_i64', wrap_u8, wrap_u16, wrap_u32, wrap_u64, wrap_i32, List.length_cons, List.length_nil, List.length_append, List.length_map, tmodN, tdivN]); and_intros <;> first | exact True.intro | omega | skip) ?_
    exact Runs.retH Tryd.func14 rfl rfl (by rw [unhex_odd (by omega)]; rfl) (by rfl)
  · try simp only [decide_eq_true_eq, decide_eq_false_iff_not, notT, notF, beq_iff_eq, beq_eq_false_iff_ne, bne_iff_ne, bne_eq_false_iff_eq, tmodN, tdivN, Int.not_lt, Int.not_le] at g13
    refine Runs.skip ?_
    refine Runs.seq ?_
    refine Runs.reg [] [0] rfl (by (try simp only [wrap_i64', wrap_u8, wrap_u16, wrap_u32, wrap_u64, wrap_i32, List.length_cons, List.length_nil, List.length_append, List.length_map, tmodN, tdivN]); and_intros <;> first | exact True.intro | omega | skip) ?_
    refine Runs.seq ?_
    refine Runs.seq ?_
    refine Runs.reg [] [] rfl (by (try simp only [wrap_i64', wrap_u8, wrap_u16, wrap_u32, wrap_u64, wrap_i32, List.length_cons, List.length_nil, List.length_append, List.length_map, tmodN, tdivN]); and_intros <;> first | exact True.intro | omega | skip) ?_
    refine Runs.block ?_
    -- loop 0
    refine Runs.loopF (σ := Nat × List UInt8) (fun p => UnI s p.1 p.2) (fun p => [(0, .str s), (4, .bs p.2 true), (5, .int .i64 p.1)]) (fun _ => []) (fun p => s.length + 1 - p.1) ((0, [])) (by exact UnI.start (by omega)) (by exact agree_cons rfl (by first | with_reducible rfl | (refine congrArg (AV.int _) ?_; (try simp only [wrap_i64', wrap_u8, wrap_u16, wrap_u32, wrap_u64, wrap_i32, List.length_cons, List.length_nil, List.length_append, List.length_map, tmodN, tdivN]); omega) | rfl | skip) (agree_cons rfl (by first | with_reducible rfl | (refine congrArg (AV.int _) ?_; (try simp only [wrap_i64', wrap_u8, wrap_u16, wrap_u32, wrap_u64, wrap_i32, List.length_cons, List.length_nil, List.length_append, List.length_map, tmodN, tdivN]); omega) | rfl | skip) (agree_cons rfl (by first | with_reducible rfl | (refine congrArg (AV.int _) ?_; (try simp only [wrap_i64', wrap_u8, wrap_u16, wrap_u32, wrap_u64, wrap_i32, List.length_cons, List.length_nil, List.length_append, List.length_map, tmodN, tdivN]); omega) | rfl | skip) (trivial)))) (by rfl) (fun ⟨i, out⟩ hi ih => ?_)
    have hi : UnI s i out := hi; have hle := hi.le; have hev := hi.ev; have hevs := hi.evs; have hlen := hi.len
    refine Runs.seq ?_
    refine Runs.seq ?_
    refine Runs.reg [] [0, 1] rfl (by (try simp only [wrap_i64', wrap_u8, wrap_u16, wrap_u32, wrap_u64, wrap_i32, List.length_cons, List.length_nil, List.length_append, List.length_map, tmodN, tdivN]); and_intros <;> first | exact True.intro | omega | skip) ?_
    refine Runs.condS rfl (fun g21 => ?_) (fun g21 => ?_)
    · try simp only [decide_eq_true_eq, decide_eq_false_iff_not, notT, notF, beq_iff_eq, beq_eq_false_iff_ne, bne_iff_ne, bne_eq_false_iff_eq, tmodN, tdivN, Int.not_lt, Int.not_le] at g21
      refine Runs.skip ?_
      refine Runs.seq ?_
      refine Runs.block ?_
      refine Runs.seq ?_
      refine Runs.reg [(3, { res := .tup [.int .u8 ((hv (s.getD (i : Int).toNat 0)).getD 0 : Nat), .bool (hv (s.getD (i : Int).toNat 0)).isSome] })] [0, 1] rfl (by and_intros <;> first | exact True.intro | omega | exact digit_ok _) ?_
      refine Runs.seq ?_
      refine Runs.reg [(4, { res := .tup [.int .u8 ((hv (s.getD (IntKind.i64.wrap ((i : Int) + 1)).toNat 0)).getD 0 : Nat), .bool (hv (s.getD (IntKind.i64.wrap ((i : Int) + 1)).toNat 0)).isSome] })] [0, 1] rfl (by rw [i64_id (by omega) (by omega)]; and_intros <;> first | exact True.intro | omega | exact digit_ok _) ?_
      refine Runs.seq ?_
      refine Runs.seq ?_
      refine Runs.region ?_
      refine Runs.restTo 3 [] [0, 3] rfl (by (try simp only [wrap_i64', wrap_u8, wrap_u16, wrap_u32, wrap_u64, wrap_i32, List.length_cons, List.length_nil, List.length_append, List.length_map, tmodN, tdivN]); and_intros <;> first | exact True.intro | omega | skip) ?_
      refine Runs.splitS 41 rfl (fun g41 => ?_) (fun g41 => ?_)
      · try simp only [decide_eq_true_eq, decide_eq_false_iff_not, notT, notF, beq_iff_eq, beq_eq_false_iff_ne, bne_iff_ne, bne_eq_false_iff_eq, tmodN, tdivN, Int.not_lt, Int.not_le] at g41
        refine Runs.rest [] [0, 3] rfl (by (try simp only [wrap_i64', wrap_u8, wrap_u16, wrap_u32, wrap_u64, wrap_i32, List.length_cons, List.length_nil, List.length_append, List.length_map, tmodN, tdivN]); and_intros <;> first | exact True.intro | omega | skip) ?_
        refine Runs.condT rfl ?_
        refine Runs.seq ?_
        refine Runs.reg [] [] rfl (by (try simp only [wrap_i64', wrap_u8, wrap_u16, wrap_u32, wrap_u64, wrap_i32, List.length_cons, List.length_nil, List.length_append, List.length_map, tmodN, tdivN]); and_intros <;> first | exact True.intro | omega | skip) ?_
        exact Runs.retH Tryd.func14 rfl rfl (by rw [hi.none1 (by omega) (Option.isSome_eq_false_iff.1 g41 |> Option.isNone_iff_eq_none.1)]; rfl) (by rfl)
      · try simp only [decide_eq_true_eq, decide_eq_false_iff_not, notT, notF, beq_iff_eq, beq_eq_false_iff_ne, bne_iff_ne, bne_eq_false_iff_eq, tmodN, tdivN, Int.not_lt, Int.not_le] at g41
        refine Runs.rest [] [0, 3] rfl (by (try simp only [wrap_i64', wrap_u8, wrap_u16, wrap_u32, wrap_u64, wrap_i32, List.length_cons, List.length_nil, List.length_append, List.length_map, tmodN, tdivN]); and_intros <;> first | exact True.intro | omega | skip) ?_
        refine Runs.condS rfl (fun g44 => ?_) (fun g44 => ?_)
        · try simp only [decide_eq_true_eq, decide_eq_false_iff_not, notT, notF, beq_iff_eq, beq_eq_false_iff_ne, bne_iff_ne, bne_eq_false_iff_eq, tmodN, tdivN, Int.not_lt, Int.not_le] at g44
          refine Runs.seq ?_
          refine Runs.reg [] [] rfl (by (try simp only [wrap_i64', wrap_u8, wrap_u16, wrap_u32, wrap_u64, wrap_i32, List.length_cons, List.length_nil, List.length_append, List.length_map, tmodN, tdivN]); and_intros <;> first | exact True.intro | omega | skip) ?_
          exact Runs.retH Tryd.func14 rfl rfl (by rw [i1 i (by omega)] at g44; rw [hi.none2 (by omega) (Option.isSome_eq_false_iff.1 g44 |> Option.isNone_iff_eq_none.1)]; rfl) (by rfl)
        · try simp only [decide_eq_true_eq, decide_eq_false_iff_not, notT, notF, beq_iff_eq, beq_eq_false_iff_ne, bne_iff_ne, bne_eq_false_iff_eq, tmodN, tdivN, Int.not_lt, Int.not_le] at g44
          refine Runs.skip ?_
          obtain ⟨x, hx⟩ := Option.isSome_iff_exists.1 g41
          rw [i1 i (by omega)] at g44
          obtain ⟨y, hy⟩ := Option.isSome_iff_exists.1 g44
          refine Runs.reg [] [] rfl (by rw [hx, i1 i (by omega), hy, Option.getD_some, Option.getD_some, or4 (hv_lt hx) (hv_lt hy)]; have := hv_lt hx; have := hv_lt hy; simp only [List.length_cons, List.length_nil, List.length_map]; and_intros <;> first | exact True.intro | omega | (intro z hz; simp only [List.mem_cons, List.not_mem_nil, or_false] at hz; omega)) ?_
          refine Runs.inBlock ?_
          refine Runs.reg [] [] rfl (by (try simp only [wrap_i64', wrap_u8, wrap_u16, wrap_u32, wrap_u64, wrap_i32, List.length_cons, List.length_nil, List.length_append, List.length_map, tmodN, tdivN]); and_intros <;> first | exact True.intro | omega | skip) ?_
          exact ih (i + 2, out ++ [UInt8.ofNat (16 * x + y)]) _ _ (by exact hi.step (by omega) hx hy) (by simp only; omega) (by exact agree_cons rfl (by first | with_reducible rfl | (refine congrArg (AV.int _) ?_; (try simp only [wrap_i64', wrap_u8, wrap_u16, wrap_u32, wrap_u64, wrap_i32, List.length_cons, List.length_nil, List.length_append, List.length_map, tmodN, tdivN]); omega) | rfl | skip) (agree_cons rfl (by rw [hx, i1 i (by omega), hy, Option.getD_some, Option.getD_some, or4 (hv_lt hx) (hv_lt hy)]; exact congrArg (AV.bs · true) (by simp only [List.map_cons, List.map_nil, toB_ofNat])) (agree_cons rfl (by first | with_reducible rfl | (refine congrArg (AV.int _) ?_; (try simp only [wrap_i64', wrap_u8, wrap_u16, wrap_u32, wrap_u64, wrap_i32, List.length_cons, List.length_nil, List.length_append, List.length_map, tmodN, tdivN]); omega) | rfl | skip) (trivial)))) (by rfl)
    · try simp only [decide_eq_true_eq, decide_eq_false_iff_not, notT, notF, beq_iff_eq, beq_eq_false_iff_ne, bne_iff_ne, bne_eq_false_iff_eq, tmodN, tdivN, Int.not_lt, Int.not_le] at g21
      refine Runs.exit rfl ?_
      refine Runs.seq ?_
      refine Runs.reg [] [0] rfl (by (try simp only [wrap_i64', wrap_u8, wrap_u16, wrap_u32, wrap_u64, wrap_i32, List.length_cons, List.length_nil, List.length_append, List.length_map, tmodN, tdivN]); and_intros <;> first | exact True.intro | omega | skip) ?_
      exact Runs.retH Tryd.func14 rfl rfl (by rw [hi.done (by omega)]; rfl) (by rfl)


def decF : List UInt8 → Nat → Option Nat
  | [], n => some n
  | c :: r, n => if 48 ≤ c.toNat ∧ c.toNat ≤ 57 then decF r (10 * n + (c.toNat - 48)) else none
def intF (s : List UInt8) : Option Nat := if s.length < 1 ∨ 18 < s.length ∨ (1 < s.length ∧ (s.getD 0 0).toNat = 48) then none else decF s 0
structure DecI (s : List UInt8) (i n : Nat) : Prop where
  le : i ≤ s.length
  le18 : s.length ≤ 18
  lt : n < 10 ^ i
  eq : decF s 0 = decF (s.drop i) n
theorem DecI.n17 {s i n} (h : DecI s i n) (hi : i < s.length) : n < 100000000000000000 := by
  have h1 := h.le18
  exact Nat.lt_of_lt_of_le h.lt (Nat.pow_le_pow_right (n := 10) (by decide) (show i ≤ 17 by omega))
theorem DecI.n18 {s i n} (h : DecI s i n) : n < 1000000000000000000 := by
  have h1 := h.le18; have h2 := h.le
  exact Nat.lt_of_lt_of_le h.lt (Nat.pow_le_pow_right (n := 10) (by decide) (show i ≤ 18 by omega))
theorem DecI.bad {s i n} (h : DecI s i n) (hi : i < s.length) (hc : ¬ (48 ≤ (s.getD i 0).toNat ∧ (s.getD i 0).toNat ≤ 57)) : decF s 0 = none := by
  rw [h.eq, List.drop_eq_getElem_cons hi, decF]
  have : s[i] = s.getD i 0 := by rw [List.getD_eq_getElem?_getD, List.getElem?_eq_getElem hi]; rfl
  rw [this, if_neg hc]
theorem DecI.step {s i n} (h : DecI s i n) (hi : i < s.length) (hc : 48 ≤ (s.getD i 0).toNat ∧ (s.getD i 0).toNat ≤ 57) : DecI s (i + 1) (10 * n + ((s.getD i 0).toNat - 48)) := by
  refine ⟨by omega, h.le18, ?_, ?_⟩
  · have := h.lt
    rw [Nat.pow_succ]; omega
  · rw [h.eq, List.drop_eq_getElem_cons hi, decF]
    have : s[i] = s.getD i 0 := by rw [List.getD_eq_getElem?_getD, List.getElem?_eq_getElem hi]; rfl
    rw [this, if_pos hc]
theorem DecI.done {s i n} (h : DecI s i n) (hi : s.length ≤ i) : decF s 0 = some n := by
  rw [h.eq, List.drop_eq_nil_of_le hi, decF]
theorem intF_none {s : List UInt8} (h : s.length < 1 ∨ 18 < s.length ∨ (1 < s.length ∧ (s.getD 0 0).toNat = 48)) : intF s = none := if_pos h
theorem intF_dec {s : List UInt8} (h : ¬ (s.length < 1 ∨ 18 < s.length ∨ (1 < s.length ∧ (s.getD 0 0).toNat = 48))) : intF s = decF s 0 := if_neg h

theorem int_ok (s : List UInt8) (hs : s.length ≤ 1048576) : FnOK Tryd.prog 9 [.str s] [] (.tup [.int .i64 ((intF s).getD 0 : Nat), .bool (intF s).isSome]) [] := by
  refine FnOK.of_runs Tryd.func9 rfl (Nat.le_of_ble_eq_true rfl) ?_
  refine Runs.seq ?_
  refine Runs.reg [] [] rfl (by (try simp only [wrap_i64', wrap_u8, wrap_u16, wrap_u32, wrap_u64, wrap_i32, List.length_cons, List.length_nil, List.length_append, List.length_map, tmodN, tdivN]); and_intros <;> first | exact True.intro | omega | skip) ?_
  refine Runs.seq ?_
  refine Runs.seq ?_
  refine Runs.meet (σ := Bool) (fun g => g = true ↔ (s.length < 1 ∨ 18 < s.length ∨ (1 < s.length ∧ (s.getD 0 0).toNat = 48))) (fun g => [(0, .str s), (23, .bool g)]) (fun _ => []) (fun g hg => ?_) (fun meet_a => ?_)
  · skip
    refine Runs.condS rfl (fun g23 => ?_) (fun g23 => ?_)
    · try simp only [decide_eq_true_eq, decide_eq_false_iff_not, notT, notF, beq_iff_eq, beq_eq_false_iff_ne, bne_iff_ne, bne_eq_false_iff_eq, tmodN, tdivN, Int.not_lt, Int.not_le] at g23
      refine Runs.seq ?_
      refine Runs.reg [] [] rfl (by (try simp only [wrap_i64', wrap_u8, wrap_u16, wrap_u32, wrap_u64, wrap_i32, List.length_cons, List.length_nil, List.length_append, List.length_map, tmodN, tdivN]); and_intros <;> first | exact True.intro | omega | skip) ?_
      exact Runs.retH Tryd.func9 rfl rfl (by rw [intF_none (hg.1 g23)]; rfl) (by rfl)
    · try simp only [decide_eq_true_eq, decide_eq_false_iff_not, notT, notF, beq_iff_eq, beq_eq_false_iff_ne, bne_iff_ne, bne_eq_false_iff_eq, tmodN, tdivN, Int.not_lt, Int.not_le] at g23
      refine Runs.skip ?_
      refine Runs.seq ?_
      refine Runs.reg [] [] rfl (by (try simp only [wrap_i64', wrap_u8, wrap_u16, wrap_u32, wrap_u64, wrap_i32, List.length_cons, List.length_nil, List.length_append, List.length_map, tmodN, tdivN]); and_intros <;> first | exact True.intro | omega | skip) ?_
      refine Runs.seq ?_
      refine Runs.seq ?_
      refine Runs.reg [] [0] rfl (by (try simp only [wrap_i64', wrap_u8, wrap_u16, wrap_u32, wrap_u64, wrap_i32, List.length_cons, List.length_nil, List.length_append, List.length_map, tmodN, tdivN]); and_intros <;> first | exact True.intro | omega | skip) ?_
      refine Runs.block ?_
      -- loop 0
      have hcs := Bool.eq_false_iff.1 g23; rw [Ne, hg] at hcs
      refine Runs.loopF (σ := Nat × Nat) (fun p => DecI s p.1 p.2) (fun p => [(0, .str s), (4, .int .i64 p.2), (25, .int .i64 s.length), (26, .int .i64 p.1)]) (fun _ => []) (fun p => s.length - p.1) ((0, 0)) (by exact ⟨Nat.zero_le _, by omega, by decide, rfl⟩) (by exact agree_cons rfl (by first | with_reducible rfl | (refine congrArg (AV.int _) ?_; (try simp only [wrap_i64', wrap_u8, wrap_u16, wrap_u32, wrap_u64, wrap_i32, List.length_cons, List.length_nil, List.length_append, List.length_map, tmodN, tdivN]); omega) | rfl | skip) (agree_cons rfl (by first | with_reducible rfl | (refine congrArg (AV.int _) ?_; (try simp only [wrap_i64', wrap_u8, wrap_u16, wrap_u32, wrap_u64, wrap_i32, List.length_cons, List.length_nil, List.length_append, List.length_map, tmodN, tdivN]); omega) | rfl | skip) (agree_cons rfl (by first | with_reducible rfl | (refine congrArg (AV.int _) ?_; (try simp only [wrap_i64', wrap_u8, wrap_u16, wrap_u32, wrap_u64, wrap_i32, List.length_cons, List.length_nil, List.length_append, List.length_map, tmodN, tdivN]); omega) | rfl | skip) (agree_cons rfl (by first | with_reducible rfl | (refine congrArg (AV.int _) ?_; (try simp only [wrap_i64', wrap_u8, wrap_u16, wrap_u32, wrap_u64, wrap_i32, List.length_cons, List.length_nil, List.length_append, List.length_map, tmodN, tdivN]); omega) | rfl | skip) (trivial))))) (by rfl) (fun ⟨i, m⟩ hi ih => ?_)
      have hi : DecI s i m := hi; have hle := hi.le; have h18 := hi.le18; have hn := hi.n18; have h17 := hi.n17; have hc := u8lt (s.getD (i : Int).toNat 0)
      refine Runs.seq ?_
      refine Runs.reg [] [] rfl (by (try simp only [wrap_i64', wrap_u8, wrap_u16, wrap_u32, wrap_u64, wrap_i32, List.length_cons, List.length_nil, List.length_append, List.length_map, tmodN, tdivN]); and_intros <;> first | exact True.intro | omega | skip) ?_
      refine Runs.seq ?_
      refine Runs.condS rfl (fun g27 => ?_) (fun g27 => ?_)
      · try simp only [decide_eq_true_eq, decide_eq_false_iff_not, notT, notF, beq_iff_eq, beq_eq_false_iff_ne, bne_iff_ne, bne_eq_false_iff_eq, tmodN, tdivN, Int.not_lt, Int.not_le] at g27
        refine Runs.skip ?_
        refine Runs.seq ?_
        refine Runs.block ?_
        refine Runs.seq ?_
        refine Runs.reg [] [0] rfl (by (try simp only [wrap_i64', wrap_u8, wrap_u16, wrap_u32, wrap_u64, wrap_i32, List.length_cons, List.length_nil, List.length_append, List.length_map, tmodN, tdivN]); and_intros <;> first | exact True.intro | omega | skip) ?_
        refine Runs.seq ?_
        refine Runs.seq ?_
        refine Runs.region ?_
        refine Runs.restTo 5 [] [0, 1, 5, 6] rfl (by (try simp only [wrap_i64', wrap_u8, wrap_u16, wrap_u32, wrap_u64, wrap_i32, List.length_cons, List.length_nil, List.length_append, List.length_map, tmodN, tdivN]); and_intros <;> first | exact True.intro | omega | skip) ?_
        refine Runs.splitS 33 rfl (fun g33 => ?_) (fun g33 => ?_)
        · try simp only [decide_eq_true_eq, decide_eq_false_iff_not, notT, notF, beq_iff_eq, beq_eq_false_iff_ne, bne_iff_ne, bne_eq_false_iff_eq, tmodN, tdivN, Int.not_lt, Int.not_le] at g33
          refine Runs.rest [] [0, 1, 5, 6] rfl (by (try simp only [wrap_i64', wrap_u8, wrap_u16, wrap_u32, wrap_u64, wrap_i32, List.length_cons, List.length_nil, List.length_append, List.length_map, tmodN, tdivN]); and_intros <;> first | exact True.intro | omega | skip) ?_
          refine Runs.condT rfl ?_
          refine Runs.seq ?_
          refine Runs.reg [] [] rfl (by (try simp only [wrap_i64', wrap_u8, wrap_u16, wrap_u32, wrap_u64, wrap_i32, List.length_cons, List.length_nil, List.length_append, List.length_map, tmodN, tdivN]); and_intros <;> first | exact True.intro | omega | skip) ?_
          exact Runs.retH Tryd.func9 rfl rfl (by rw [intF_dec hcs, hi.bad (by omega) (by simp only [Int.toNat_natCast] at g33; omega)]; rfl) (by rfl)
        · try simp only [decide_eq_true_eq, decide_eq_false_iff_not, notT, notF, beq_iff_eq, beq_eq_false_iff_ne, bne_iff_ne, bne_eq_false_iff_eq, tmodN, tdivN, Int.not_lt, Int.not_le] at g33
          refine Runs.rest [] [0, 1, 5, 6] rfl (by (try simp only [wrap_i64', wrap_u8, wrap_u16, wrap_u32, wrap_u64, wrap_i32, List.length_cons, List.length_nil, List.length_append, List.length_map, tmodN, tdivN]); and_intros <;> first | exact True.intro | omega | skip) ?_
          refine Runs.condS rfl (fun g38 => ?_) (fun g38 => ?_)
          · try simp only [decide_eq_true_eq, decide_eq_false_iff_not, notT, notF, beq_iff_eq, beq_eq_false_iff_ne, bne_iff_ne, bne_eq_false_iff_eq, tmodN, tdivN, Int.not_lt, Int.not_le] at g38
            refine Runs.seq ?_
            refine Runs.reg [] [] rfl (by (try simp only [wrap_i64', wrap_u8, wrap_u16, wrap_u32, wrap_u64, wrap_i32, List.length_cons, List.length_nil, List.length_append, List.length_map, tmodN, tdivN]); and_intros <;> first | exact True.intro | omega | skip) ?_
            exact Runs.retH Tryd.func9 rfl rfl (by rw [intF_dec hcs, hi.bad (by omega) (by simp only [Int.toNat_natCast] at g38; omega)]; rfl) (by rfl)
          · try simp only [decide_eq_true_eq, decide_eq_false_iff_not, notT, notF, beq_iff_eq, beq_eq_false_iff_ne, bne_iff_ne, bne_eq_false_iff_eq, tmodN, tdivN, Int.not_lt, Int.not_le] at g38
            refine Runs.skip ?_
            refine Runs.reg [] [2, 3] rfl (by (try simp only [wrap_i64', wrap_u8, wrap_u16, wrap_u32, wrap_u64, wrap_i32, List.length_cons, List.length_nil, List.length_append, List.length_map, tmodN, tdivN]); and_intros <;> first | exact True.intro | omega | skip) ?_
            refine Runs.inBlock ?_
            refine Runs.reg [] [] rfl (by (try simp only [wrap_i64', wrap_u8, wrap_u16, wrap_u32, wrap_u64, wrap_i32, List.length_cons, List.length_nil, List.length_append, List.length_map, tmodN, tdivN]); and_intros <;> first | exact True.intro | omega | skip) ?_
            exact ih (i + 1, 10 * m + ((s.getD (i : Int).toNat 0).toNat - 48)) _ _ (by exact hi.step (by omega) ⟨Int.ofNat_le.1 g33, Int.ofNat_le.1 g38⟩) (by simp only; omega) (by exact agree_cons rfl (by first | with_reducible rfl | (refine congrArg (AV.int _) ?_; (try simp only [wrap_i64', wrap_u8, wrap_u16, wrap_u32, wrap_u64, wrap_i32, List.length_cons, List.length_nil, List.length_append, List.length_map, tmodN, tdivN]); omega) | rfl | skip) (agree_cons rfl (by have h17 := h17 (by omega); rw [u8_id (x := ((s.getD (i : Int).toNat 0).toNat : Int) - 48) (by omega) (by omega), i64_id (x := 10 * (m : Int)) (by omega) (by omega), i64_id (x := ((s.getD (i : Int).toNat 0).toNat : Int) - 48) (by omega) (by omega), i64_id (by omega) (by omega)]; refine congrArg (AV.int _) ?_; simp only []; omega) (agree_cons rfl (by first | with_reducible rfl | (refine congrArg (AV.int _) ?_; (try simp only [wrap_i64', wrap_u8, wrap_u16, wrap_u32, wrap_u64, wrap_i32, List.length_cons, List.length_nil, List.length_append, List.length_map, tmodN, tdivN]); omega) | rfl | skip) (agree_cons rfl (by first | with_reducible rfl | (refine congrArg (AV.int _) ?_; (try simp only [wrap_i64', wrap_u8, wrap_u16, wrap_u32, wrap_u64, wrap_i32, List.length_cons, List.length_nil, List.length_append, List.length_map, tmodN, tdivN]); omega) | rfl | skip) (trivial))))) (by rfl)
      · try simp only [decide_eq_true_eq, decide_eq_false_iff_not, notT, notF, beq_iff_eq, beq_eq_false_iff_ne, bne_iff_ne, bne_eq_false_iff_eq, tmodN, tdivN, Int.not_lt, Int.not_le] at g27
        refine Runs.exit rfl ?_
        refine Runs.seq ?_
        refine Runs.reg [] [0] rfl (by (try simp only [wrap_i64', wrap_u8, wrap_u16, wrap_u32, wrap_u64, wrap_i32, List.length_cons, List.length_nil, List.length_append, List.length_map, tmodN, tdivN]); and_intros <;> first | exact True.intro | omega | skip) ?_
        exact Runs.retH Tryd.func9 rfl rfl (by rw [intF_dec hcs, hi.done (by omega)]; rfl) (by rfl)
  · skip
    refine Runs.region ?_
    refine Runs.restTo 4 [] [0, 4, 9, 13] rfl (by (try simp only [wrap_i64', wrap_u8, wrap_u16, wrap_u32, wrap_u64, wrap_i32, List.length_cons, List.length_nil, List.length_append, List.length_map, tmodN, tdivN]); and_intros <;> first | exact True.intro | omega | skip) ?_
    refine Runs.splitS 9 rfl (fun g9 => ?_) (fun g9 => ?_)
    · try simp only [decide_eq_true_eq, decide_eq_false_iff_not, notT, notF, beq_iff_eq, beq_eq_false_iff_ne, bne_iff_ne, bne_eq_false_iff_eq, tmodN, tdivN, Int.not_lt, Int.not_le] at g9
      refine Runs.rest [] [0, 4, 9, 13] rfl (by (try simp only [wrap_i64', wrap_u8, wrap_u16, wrap_u32, wrap_u64, wrap_i32, List.length_cons, List.length_nil, List.length_append, List.length_map, tmodN, tdivN]); and_intros <;> first | exact True.intro | omega | skip) ?_
      exact meet_a (true) _ _ (by simp only [beq_iff_eq, true_iff, Bool.false_eq_true, false_iff, Int.toNat_zero]; omega) (by exact agree_cons rfl (by first | with_reducible rfl | (refine congrArg (AV.int _) ?_; (try simp only [wrap_i64', wrap_u8, wrap_u16, wrap_u32, wrap_u64, wrap_i32, List.length_cons, List.length_nil, List.length_append, List.length_map, tmodN, tdivN]); omega) | rfl | skip) (agree_cons rfl (by first | with_reducible rfl | (refine congrArg (AV.int _) ?_; (try simp only [wrap_i64', wrap_u8, wrap_u16, wrap_u32, wrap_u64, wrap_i32, List.length_cons, List.length_nil, List.length_append, List.length_map, tmodN, tdivN]); omega) | rfl | skip) (trivial))) (by rfl)
    · try simp only [decide_eq_true_eq, decide_eq_false_iff_not, notT, notF, beq_iff_eq, beq_eq_false_iff_ne, bne_iff_ne, bne_eq_false_iff_eq, tmodN, tdivN, Int.not_lt, Int.not_le] at g9
      refine Runs.restTo 5 [] [0, 4, 9, 13] rfl (by (try simp only [wrap_i64', wrap_u8, wrap_u16, wrap_u32, wrap_u64, wrap_i32, List.length_cons, List.length_nil, List.length_append, List.length_map, tmodN, tdivN]); and_intros <;> first | exact True.intro | omega | skip) ?_
      refine Runs.splitS 14 rfl (fun g14 => ?_) (fun g14 => ?_)
      · try simp only [decide_eq_true_eq, decide_eq_false_iff_not, notT, notF, beq_iff_eq, beq_eq_false_iff_ne, bne_iff_ne, bne_eq_false_iff_eq, tmodN, tdivN, Int.not_lt, Int.not_le] at g14
        refine Runs.rest [] [0, 4, 9, 13] rfl (by (try simp only [wrap_i64', wrap_u8, wrap_u16, wrap_u32, wrap_u64, wrap_i32, List.length_cons, List.length_nil, List.length_append, List.length_map, tmodN, tdivN]); and_intros <;> first | exact True.intro | omega | skip) ?_
        exact meet_a (true) _ _ (by simp only [beq_iff_eq, true_iff, Bool.false_eq_true, false_iff, Int.toNat_zero]; omega) (by exact agree_cons rfl (by first | with_reducible rfl | (refine congrArg (AV.int _) ?_; (try simp only [wrap_i64', wrap_u8, wrap_u16, wrap_u32, wrap_u64, wrap_i32, List.length_cons, List.length_nil, List.length_append, List.length_map, tmodN, tdivN]); omega) | rfl | skip) (agree_cons rfl (by first | with_reducible rfl | (refine congrArg (AV.int _) ?_; (try simp only [wrap_i64', wrap_u8, wrap_u16, wrap_u32, wrap_u64, wrap_i32, List.length_cons, List.length_nil, List.length_append, List.length_map, tmodN, tdivN]); omega) | rfl | skip) (trivial))) (by rfl)
      · try simp only [decide_eq_true_eq, decide_eq_false_iff_not, notT, notF, beq_iff_eq, beq_eq_false_iff_ne, bne_iff_ne, bne_eq_false_iff_eq, tmodN, tdivN, Int.not_lt, Int.not_le] at g14
        refine Runs.restTo 4 [] [0, 4, 9, 13] rfl (by (try simp only [wrap_i64', wrap_u8, wrap_u16, wrap_u32, wrap_u64, wrap_i32, List.length_cons, List.length_nil, List.length_append, List.length_map, tmodN, tdivN]); and_intros <;> first | exact True.intro | omega | skip) ?_
        refine Runs.splitS 18 rfl (fun g18 => ?_) (fun g18 => ?_)
        · try simp only [decide_eq_true_eq, decide_eq_false_iff_not, notT, notF, beq_iff_eq, beq_eq_false_iff_ne, bne_iff_ne, bne_eq_false_iff_eq, tmodN, tdivN, Int.not_lt, Int.not_le] at g18
          refine Runs.rest [] [0, 4, 9, 13] rfl (by (try simp only [wrap_i64', wrap_u8, wrap_u16, wrap_u32, wrap_u64, wrap_i32, List.length_cons, List.length_nil, List.length_append, List.length_map, tmodN, tdivN]); and_intros <;> first | exact True.intro | omega | skip) ?_
          exact meet_a (((s.getD (0 : Int).toNat 0).toNat : Int) == 48) _ _ (by simp only [beq_iff_eq, true_iff, Bool.false_eq_true, false_iff, Int.toNat_zero]; omega) (by exact agree_cons rfl (by first | with_reducible rfl | (refine congrArg (AV.int _) ?_; (try simp only [wrap_i64', wrap_u8, wrap_u16, wrap_u32, wrap_u64, wrap_i32, List.length_cons, List.length_nil, List.length_append, List.length_map, tmodN, tdivN]); omega) | rfl | skip) (agree_cons rfl (by first | with_reducible rfl | (refine congrArg (AV.int _) ?_; (try simp only [wrap_i64', wrap_u8, wrap_u16, wrap_u32, wrap_u64, wrap_i32, List.length_cons, List.length_nil, List.length_append, List.length_map, tmodN, tdivN]); omega) | rfl | skip) (trivial))) (by rfl)
        · try simp only [decide_eq_true_eq, decide_eq_false_iff_not, notT, notF, beq_iff_eq, beq_eq_false_iff_ne, bne_iff_ne, bne_eq_false_iff_eq, tmodN, tdivN, Int.not_lt, Int.not_le] at g18
          refine Runs.rest [] [0, 4, 9, 13] rfl (by (try simp only [wrap_i64', wrap_u8, wrap_u16, wrap_u32, wrap_u64, wrap_i32, List.length_cons, List.length_nil, List.length_append, List.length_map, tmodN, tdivN]); and_intros <;> first | exact True.intro | omega | skip) ?_
          exact meet_a (false) _ _ (by simp only [beq_iff_eq, true_iff, Bool.false_eq_true, false_iff, Int.toNat_zero]; omega) (by exact agree_cons rfl (by first | with_reducible rfl | (refine congrArg (AV.int _) ?_; (try simp only [wrap_i64', wrap_u8, wrap_u16, wrap_u32, wrap_u64, wrap_i32, List.length_cons, List.length_nil, List.length_append, List.length_map, tmodN, tdivN]); omega) | rfl | skip) (agree_cons rfl (by first | with_reducible rfl | (refine congrArg (AV.int _) ?_; (try simp only [wrap_i64', wrap_u8, wrap_u16, wrap_u32, wrap_u64, wrap_i32, List.length_cons, List.length_nil, List.length_append, List.length_map, tmodN, tdivN]); omega) | rfl | skip) (trivial))) (by rfl)


def be4 (n : Nat) : List UInt8 := [UInt8.ofNat (n / 16777216), UInt8.ofNat (n / 65536), UInt8.ofNat (n / 256), UInt8.ofNat n]
def packL (l : List (List UInt8)) : List UInt8 := l.flatMap fun s => be4 s.length ++ s
abbrev strEl (l : List (List UInt8)) : Nat → AV := fun i => .str (l.getD i [])
theorem packL_snoc (l : List (List UInt8)) (s : List UInt8) : packL (l ++ [s]) = packL l ++ be4 s.length ++ s := by simp [packL, List.flatMap_append]
theorem packL_app (l r : List (List UInt8)) : packL (l ++ r) = packL l ++ packL r := by simp [packL, List.flatMap_append]
theorem packL_take (l : List (List UInt8)) (i : Nat) (h : i < l.length) : packL (l.take (i + 1)) = packL (l.take i) ++ be4 (l.getD i []).length ++ l.getD i [] := by
  rw [take_succ' l i [] h, packL_snoc]
theorem packL_le (l : List (List UInt8)) (i : Nat) : (packL (l.take i)).length ≤ (packL l).length := by
  have := congrArg List.length (packL_app (l.take i) (l.drop i))
  rw [List.take_append_drop, List.length_append] at this; omega
theorem packL_len1 (l : List (List UInt8)) (i : Nat) (h : i < l.length) : (packL (l.take (i + 1))).length = (packL (l.take i)).length + (4 + (l.getD i []).length) := by
  rw [packL_take l i h]; simp [be4]; omega
theorem shr24 (n : Nat) : (n : Int).fdiv (2 ^ min (Int.toNat 24) IntKind.i64.bits) = ((n / 16777216 : Nat) : Int) := by
  show (n : Int).fdiv 16777216 = _
  rw [Int.fdiv_eq_ediv_of_nonneg _ (by decide)]; rfl
theorem shr16 (n : Nat) : (n : Int).fdiv (2 ^ min (Int.toNat 16) IntKind.i64.bits) = ((n / 65536 : Nat) : Int) := by
  show (n : Int).fdiv 65536 = _
  rw [Int.fdiv_eq_ediv_of_nonneg _ (by decide)]; rfl
theorem shr8 (n : Nat) : (n : Int).fdiv (2 ^ min (Int.toNat 8) IntKind.i64.bits) = ((n / 256 : Nat) : Int) := by
  show (n : Int).fdiv 256 = _
  rw [Int.fdiv_eq_ediv_of_nonneg _ (by decide)]; rfl
theorem toB_mod (n : Nat) : toB ((n : Int) % 256) = UInt8.ofNat n := by
  unfold toB
  apply UInt8.toNat_inj.1
  simp only [UInt8.toNat_ofNat']
  omega
theorem pack_bytes (n : Nat) : List.map toB [IntKind.u8.wrap ((n / 16777216 : Nat) : Int), IntKind.u8.wrap ((n / 65536 : Nat) : Int), IntKind.u8.wrap ((n / 256 : Nat) : Int), IntKind.u8.wrap (n : Int)] = be4 n := by
  simp only [wrap_u8, List.map_cons, List.map_nil, toB_mod, be4]
theorem inj {a b : List UInt8} {o : Bool} (h : a = b) : AV.bs a o = AV.bs b o := by rw [h]
theorem sinj {a b : List UInt8} (h : a = b) : AV.str a = AV.str b := by rw [h]
def put64L (n : Nat) : List UInt8 := (List.range 8).map fun k => UInt8.ofNat (n / 2 ^ (56 - 8 * k))
def putBlk (n i : Nat) : List AV := (List.range 8).map fun k => .int .u8 (if k < i then ((UInt8.ofNat (n / 2 ^ (56 - 8 * k))).toNat : Int) else 0)
theorem putBlk_set (n i : Nat) (h : i < 8) : (putBlk n i).set i (.int .u8 (UInt8.ofNat (n / 2 ^ (56 - 8 * i))).toNat) = putBlk n (i + 1) := by
  apply List.ext_getElem?
  intro k
  simp only [putBlk, List.getElem?_set, List.getElem?_map, List.length_map, List.length_range]
  by_cases hk : k < 8
  · rw [List.getElem?_range hk]
    by_cases e : i = k
    · subst e; simp [h]
    · rw [if_neg e]
      simp only [Option.map_some]
      by_cases h1 : k < i
      · rw [if_pos h1, if_pos (by omega)]
      · rw [if_neg h1, if_neg (by omega)]
  · have : (List.range 8)[k]? = none := by simp; omega
    rw [this]
    by_cases e : i = k
    · omega
    · simp [e]
theorem put_done (n i : Nat) (h1 : i ≤ 8) (h2 : 8 ≤ i) : List.take 8 (List.drop 0 (putBlk n i)) = (put64L n).map fun c => .int .u8 c.toNat := by
  have : i = 8 := by omega
  subst this
  rw [List.drop_zero, List.take_of_length_le (by simp [putBlk])]
  unfold putBlk put64L
  rw [List.map_map]
  refine List.map_congr_left fun k hk => ?_
  simp only [Function.comp, if_pos (List.mem_range.1 hk)]
theorem u8mod (n : Nat) : IntKind.u8.wrap (n : Int) = ((UInt8.ofNat n).toNat : Int) := by rw [wrap_u8]; simp
theorem put_val (n i : Nat) (h : i < 8) : IntKind.u8.wrap ((n : Int).fdiv (2 ^ min (IntKind.i64.wrap (56 - IntKind.i64.wrap (8 * (i : Int)))).toNat IntKind.u64.bits)) = ((UInt8.ofNat (n / 2 ^ (56 - 8 * i))).toNat : Int) := by
  have e : (IntKind.i64.wrap (56 - IntKind.i64.wrap (8 * (i : Int)))).toNat = 56 - 8 * i := by
    rw [i64_id (x := 8 * (i : Int)) (by omega) (by omega), i64_id (by omega) (by omega)]; omega
  have e2 : min (56 - 8 * i) IntKind.u64.bits = 56 - 8 * i := Nat.min_eq_left (by show _ ≤ 64; omega)
  rw [e, e2, Int.fdiv_eq_ediv_of_nonneg _ (by exact_mod_cast Nat.zero_le (2 ^ (56 - 8 * i))), show ((n : Int) / 2 ^ (56 - 8 * i)) = ((n / 2 ^ (56 - 8 * i) : Nat) : Int) by push_cast; rfl, u8mod]

theorem pack_ok (l : List (List UInt8)) (o : Bool) (hl : l.length ≤ 1048576) (hb : (packL l).length ≤ 8388608) : FnOK Tryd.prog 19 [.sl 1 l.length (strEl l) o] [] (.bs (packL l) false) [] := by
  refine FnOK.of_runs Tryd.func19 rfl (Nat.le_of_ble_eq_true rfl) ?_
  refine Runs.seq ?_
  refine Runs.reg [] [] rfl (by (try simp only [wrap_i64', wrap_u8, wrap_u16, wrap_u32, wrap_u64, wrap_i32, List.length_cons, List.length_nil, List.length_append, List.length_map, tmodN, tdivN]); and_intros <;> first | exact True.intro | omega | skip) ?_
  refine Runs.seq ?_
  refine Runs.reg [] [] rfl (by (try simp only [wrap_i64', wrap_u8, wrap_u16, wrap_u32, wrap_u64, wrap_i32, List.length_cons, List.length_nil, List.length_append, List.length_map, tmodN, tdivN]); and_intros <;> first | exact True.intro | omega | skip) ?_
  refine Runs.seq ?_
  refine Runs.seq ?_
  refine Runs.reg [] [0] rfl (by (try simp only [wrap_i64', wrap_u8, wrap_u16, wrap_u32, wrap_u64, wrap_i32, List.length_cons, List.length_nil, List.length_append, List.length_map, tmodN, tdivN]); and_intros <;> first | exact True.intro | omega | skip) ?_
  refine Runs.block ?_
  -- loop 0
  refine Runs.loopF (σ := Nat) (fun i => i ≤ l.length) (fun i => [(0, .sl 1 l.length (strEl l) o), (3, .int .i64 (packL (l.take i)).length), (10, .sl 1 l.length (strEl l) false), (11, .int .i64 l.length), (12, .int .i64 i)]) (fun _ => []) (fun i => l.length - i) (0) (by exact Nat.zero_le _) (by exact agree_cons rfl (by first | with_reducible rfl | (refine congrArg (AV.int _) ?_; (try simp only [wrap_i64', wrap_u8, wrap_u16, wrap_u32, wrap_u64, wrap_i32, List.length_cons, List.length_nil, List.length_append, List.length_map, tmodN, tdivN]); omega) | rfl | skip) (agree_cons rfl (by first | with_reducible rfl | (refine congrArg (AV.int _) ?_; (try simp only [wrap_i64', wrap_u8, wrap_u16, wrap_u32, wrap_u64, wrap_i32, List.length_cons, List.length_nil, List.length_append, List.length_map, tmodN, tdivN]); omega) | rfl | skip) (agree_cons rfl (by first | with_reducible rfl | (refine congrArg (AV.int _) ?_; (try simp only [wrap_i64', wrap_u8, wrap_u16, wrap_u32, wrap_u64, wrap_i32, List.length_cons, List.length_nil, List.length_append, List.length_map, tmodN, tdivN]); omega) | rfl | skip) (agree_cons rfl (by first | with_reducible rfl | (refine congrArg (AV.int _) ?_; (try simp only [wrap_i64', wrap_u8, wrap_u16, wrap_u32, wrap_u64, wrap_i32, List.length_cons, List.length_nil, List.length_append, List.length_map, tmodN, tdivN]); omega) | rfl | skip) (agree_cons rfl (by first | with_reducible rfl | (refine congrArg (AV.int _) ?_; (try simp only [wrap_i64', wrap_u8, wrap_u16, wrap_u32, wrap_u64, wrap_i32, List.length_cons, List.length_nil, List.length_append, List.length_map, tmodN, tdivN]); omega) | rfl | skip) (trivial)))))) (by rfl) (fun i hi ih => ?_)
  have hp := packL_le l i; have hp1 := packL_le l (i + 1); have hp2 := packL_len1 l i
  refine Runs.seq ?_
  refine Runs.reg [] [] rfl (by (try simp only [wrap_i64', wrap_u8, wrap_u16, wrap_u32, wrap_u64, wrap_i32, List.length_cons, List.length_nil, List.length_append, List.length_map, tmodN, tdivN]); and_intros <;> first | exact True.intro | omega | skip) ?_
  refine Runs.seq ?_
  refine Runs.condS rfl (fun g13 => ?_) (fun g13 => ?_)
  · try simp only [decide_eq_true_eq, decide_eq_false_iff_not, notT, notF, beq_iff_eq, beq_eq_false_iff_ne, bne_iff_ne, bne_eq_false_iff_eq, tmodN, tdivN, Int.not_lt, Int.not_le] at g13
    refine Runs.skip ?_
    refine Runs.seq ?_
    refine Runs.block ?_
    refine Runs.seq ?_
    refine Runs.reg [] [] rfl (by (try simp only [wrap_i64', wrap_u8, wrap_u16, wrap_u32, wrap_u64, wrap_i32, List.length_cons, List.length_nil, List.length_append, List.length_map, tmodN, tdivN]); and_intros <;> first | exact True.intro | omega | skip) ?_
    refine Runs.reg [] [1] rfl (by (try simp only [wrap_i64', wrap_u8, wrap_u16, wrap_u32, wrap_u64, wrap_i32, List.length_cons, List.length_nil, List.length_append, List.length_map, tmodN, tdivN]); and_intros <;> first | exact True.intro | omega | skip) ?_
    refine Runs.inBlock ?_
    refine Runs.reg [] [] rfl (by (try simp only [wrap_i64', wrap_u8, wrap_u16, wrap_u32, wrap_u64, wrap_i32, List.length_cons, List.length_nil, List.length_append, List.length_map, tmodN, tdivN]); and_intros <;> first | exact True.intro | omega | skip) ?_
    exact ih (i + 1) _ _ (by first | exact True.intro | omega) (by omega) (by exact agree_cons rfl (by first | with_reducible rfl | (refine congrArg (AV.int _) ?_; (try simp only [wrap_i64', wrap_u8, wrap_u16, wrap_u32, wrap_u64, wrap_i32, List.length_cons, List.length_nil, List.length_append, List.length_map, tmodN, tdivN]); omega) | rfl | skip) (agree_cons rfl (by have hp2 := hp2 (by omega); rw [i64_id (x := 4 + ((l.getD (i : Int).toNat []).length : Int)) (by simp only [Int.toNat_natCast]; omega) (by simp only [Int.toNat_natCast]; omega), i64_id (by simp only [Int.toNat_natCast]; omega) (by simp only [Int.toNat_natCast]; omega)]; refine congrArg (AV.int _) ?_; simp only [Int.toNat_natCast]; omega) (agree_cons rfl (by first | with_reducible rfl | (refine congrArg (AV.int _) ?_; (try simp only [wrap_i64', wrap_u8, wrap_u16, wrap_u32, wrap_u64, wrap_i32, List.length_cons, List.length_nil, List.length_append, List.length_map, tmodN, tdivN]); omega) | rfl | skip) (agree_cons rfl (by first | with_reducible rfl | (refine congrArg (AV.int _) ?_; (try simp only [wrap_i64', wrap_u8, wrap_u16, wrap_u32, wrap_u64, wrap_i32, List.length_cons, List.length_nil, List.length_append, List.length_map, tmodN, tdivN]); omega) | rfl | skip) (agree_cons rfl (by first | with_reducible rfl | (refine congrArg (AV.int _) ?_; (try simp only [wrap_i64', wrap_u8, wrap_u16, wrap_u32, wrap_u64, wrap_i32, List.length_cons, List.length_nil, List.length_append, List.length_map, tmodN, tdivN]); omega) | rfl | skip) (trivial)))))) (by rfl)
  · try simp only [decide_eq_true_eq, decide_eq_false_iff_not, notT, notF, beq_iff_eq, beq_eq_false_iff_ne, bne_iff_ne, bne_eq_false_iff_eq, tmodN, tdivN, Int.not_lt, Int.not_le] at g13
    refine Runs.exit rfl ?_
    refine Runs.seq ?_
    refine Runs.reg [] [0] rfl (by rw [List.take_of_length_le (by omega)]; and_intros <;> first | exact True.intro | omega) ?_
    refine Runs.seq ?_
    refine Runs.seq ?_
    refine Runs.reg [] [0] rfl (by (try simp only [wrap_i64', wrap_u8, wrap_u16, wrap_u32, wrap_u64, wrap_i32, List.length_cons, List.length_nil, List.length_append, List.length_map, tmodN, tdivN]); and_intros <;> first | exact True.intro | omega | skip) ?_
    refine Runs.block ?_
    -- loop 1
    refine Runs.loopF (σ := Nat) (fun i => i ≤ l.length) (fun i => [(6, .bs (packL (l.take i)) true), (24, .sl 1 l.length (strEl l) false), (25, .int .i64 l.length), (26, .int .i64 i)]) (fun _ => []) (fun i => l.length - i) (0) (by exact Nat.zero_le _) (by exact agree_cons rfl (by first | with_reducible rfl | (refine congrArg (AV.int _) ?_; (try simp only [wrap_i64', wrap_u8, wrap_u16, wrap_u32, wrap_u64, wrap_i32, List.length_cons, List.length_nil, List.length_append, List.length_map, tmodN, tdivN]); omega) | rfl | skip) (agree_cons rfl (by first | with_reducible rfl | (refine congrArg (AV.int _) ?_; (try simp only [wrap_i64', wrap_u8, wrap_u16, wrap_u32, wrap_u64, wrap_i32, List.length_cons, List.length_nil, List.length_append, List.length_map, tmodN, tdivN]); omega) | rfl | skip) (agree_cons rfl (by first | with_reducible rfl | (refine congrArg (AV.int _) ?_; (try simp only [wrap_i64', wrap_u8, wrap_u16, wrap_u32, wrap_u64, wrap_i32, List.length_cons, List.length_nil, List.length_append, List.length_map, tmodN, tdivN]); omega) | rfl | skip) (agree_cons rfl (by first | with_reducible rfl | (refine congrArg (AV.int _) ?_; (try simp only [wrap_i64', wrap_u8, wrap_u16, wrap_u32, wrap_u64, wrap_i32, List.length_cons, List.length_nil, List.length_append, List.length_map, tmodN, tdivN]); omega) | rfl | skip) (trivial))))) (by rfl) (fun j hj ih => ?_)
    have hp := packL_le l j; have hp1 := packL_le l (j + 1); have hp2 := packL_len1 l j
    refine Runs.seq ?_
    refine Runs.reg [] [] rfl (by (try simp only [wrap_i64', wrap_u8, wrap_u16, wrap_u32, wrap_u64, wrap_i32, List.length_cons, List.length_nil, List.length_append, List.length_map, tmodN, tdivN]); and_intros <;> first | exact True.intro | omega | skip) ?_
    refine Runs.seq ?_
    refine Runs.condS rfl (fun g27 => ?_) (fun g27 => ?_)
    · try simp only [decide_eq_true_eq, decide_eq_false_iff_not, notT, notF, beq_iff_eq, beq_eq_false_iff_ne, bne_iff_ne, bne_eq_false_iff_eq, tmodN, tdivN, Int.not_lt, Int.not_le] at g27
      refine Runs.skip ?_
      refine Runs.seq ?_
      refine Runs.block ?_
      refine Runs.seq ?_
      refine Runs.reg [] [] rfl (by (try simp only [wrap_i64', wrap_u8, wrap_u16, wrap_u32, wrap_u64, wrap_i32, List.length_cons, List.length_nil, List.length_append, List.length_map, tmodN, tdivN]); and_intros <;> first | exact True.intro | omega | skip) ?_
      refine Runs.seq ?_
      refine Runs.reg [] [0] rfl (by (try simp only [wrap_i64', wrap_u8, wrap_u16, wrap_u32, wrap_u64, wrap_i32, List.length_cons, List.length_nil, List.length_append, List.length_map, tmodN, tdivN]); and_intros <;> first | exact True.intro | omega | skip) ?_
      refine Runs.seq ?_
      refine Runs.reg [] [1, 4, 7, 10] rfl (by have hp2 := hp2 (by omega); rw [shr24, shr16, shr8]; simp only [List.length_cons, List.length_nil, List.length_map]; and_intros <;> first | exact True.intro | omega | (intro z hz; simp only [List.mem_cons, List.not_mem_nil, or_false, wrap_u8] at hz; omega)) ?_
      refine Runs.reg [] [] rfl (by have hp2 := hp2 (by omega); simp only [List.length_append, List.length_cons, List.length_nil, List.length_map, Int.toNat_natCast]; and_intros <;> first | exact True.intro | omega) ?_
      refine Runs.inBlock ?_
      refine Runs.reg [] [] rfl (by (try simp only [wrap_i64', wrap_u8, wrap_u16, wrap_u32, wrap_u64, wrap_i32, List.length_cons, List.length_nil, List.length_append, List.length_map, tmodN, tdivN]); and_intros <;> first | exact True.intro | omega | skip) ?_
      exact ih (j + 1) _ _ (by first | exact True.intro | omega) (by omega) (by exact agree_cons rfl (by rw [shr24, shr16, shr8, pack_bytes]; exact inj (packL_take l j (by omega)).symm) (agree_cons rfl (by first | with_reducible rfl | (refine congrArg (AV.int _) ?_; (try simp only [wrap_i64', wrap_u8, wrap_u16, wrap_u32, wrap_u64, wrap_i32, List.length_cons, List.length_nil, List.length_append, List.length_map, tmodN, tdivN]); omega) | rfl | skip) (agree_cons rfl (by first | with_reducible rfl | (refine congrArg (AV.int _) ?_; (try simp only [wrap_i64', wrap_u8, wrap_u16, wrap_u32, wrap_u64, wrap_i32, List.length_cons, List.length_nil, List.length_append, List.length_map, tmodN, tdivN]); omega) | rfl | skip) (agree_cons rfl (by first | with_reducible rfl | (refine congrArg (AV.int _) ?_; (try simp only [wrap_i64', wrap_u8, wrap_u16, wrap_u32, wrap_u64, wrap_i32, List.length_cons, List.length_nil, List.length_append, List.length_map, tmodN, tdivN]); omega) | rfl | skip) (trivial))))) (by rfl)
    · try simp only [decide_eq_true_eq, decide_eq_false_iff_not, notT, notF, beq_iff_eq, beq_eq_false_iff_ne, bne_iff_ne, bne_eq_false_iff_eq, tmodN, tdivN, Int.not_lt, Int.not_le] at g27
      refine Runs.exit rfl ?_
      refine Runs.seq ?_
      refine Runs.reg [] [] rfl (by (try simp only [wrap_i64', wrap_u8, wrap_u16, wrap_u32, wrap_u64, wrap_i32, List.length_cons, List.length_nil, List.length_append, List.length_map, tmodN, tdivN]); and_intros <;> first | exact True.intro | omega | skip) ?_
      exact Runs.retH Tryd.func19 rfl rfl (by rw [List.take_of_length_le (by omega)]) (by rfl)

theorem put64_ok (n : Nat) (hn : n < 18446744073709551616) : FnOK Tryd.prog 21 [.int .u64 n] [] (.bs (put64L n) false) [] := by
  refine FnOK.of_runs Tryd.func21 rfl (Nat.le_of_ble_eq_true rfl) ?_
  refine Runs.seq ?_
  refine Runs.reg [] [] rfl (by (try simp only [wrap_i64', wrap_u8, wrap_u16, wrap_u32, wrap_u64, wrap_i32, List.length_cons, List.length_nil, List.length_append, List.length_map, tmodN, tdivN]); and_intros <;> first | exact True.intro | omega | skip) ?_
  refine Runs.seq ?_
  refine Runs.reg [] [] rfl (by (try simp only [wrap_i64', wrap_u8, wrap_u16, wrap_u32, wrap_u64, wrap_i32, List.length_cons, List.length_nil, List.length_append, List.length_map, tmodN, tdivN]); and_intros <;> first | exact True.intro | omega | skip) ?_
  refine Runs.seq ?_
  refine Runs.seq ?_
  refine Runs.reg [] [0] rfl (by (try simp only [wrap_i64', wrap_u8, wrap_u16, wrap_u32, wrap_u64, wrap_i32, List.length_cons, List.length_nil, List.length_append, List.length_map, tmodN, tdivN]); and_intros <;> first | exact True.intro | omega | skip) ?_
  refine Runs.block ?_
  -- loop 0
  refine Runs.loopF (σ := Nat) (fun i => i ≤ 8) (fun i => [(0, .int .u64 n), (3, .hs 0 0 8 8), (7, .int .i64 8), (8, .int .i64 i)]) (fun i => [putBlk n i]) (fun i => 8 - i) (0) (by exact Nat.zero_le _) (by exact agree_cons rfl (by first | with_reducible rfl | (refine congrArg (AV.int _) ?_; (try simp only [wrap_i64', wrap_u8, wrap_u16, wrap_u32, wrap_u64, wrap_i32, List.length_cons, List.length_nil, List.length_append, List.length_map, tmodN, tdivN]); omega) | rfl | skip) (agree_cons rfl (by first | with_reducible rfl | (refine congrArg (AV.int _) ?_; (try simp only [wrap_i64', wrap_u8, wrap_u16, wrap_u32, wrap_u64, wrap_i32, List.length_cons, List.length_nil, List.length_append, List.length_map, tmodN, tdivN]); omega) | rfl | skip) (agree_cons rfl (by first | with_reducible rfl | (refine congrArg (AV.int _) ?_; (try simp only [wrap_i64', wrap_u8, wrap_u16, wrap_u32, wrap_u64, wrap_i32, List.length_cons, List.length_nil, List.length_append, List.length_map, tmodN, tdivN]); omega) | rfl | skip) (agree_cons rfl (by first | with_reducible rfl | (refine congrArg (AV.int _) ?_; (try simp only [wrap_i64', wrap_u8, wrap_u16, wrap_u32, wrap_u64, wrap_i32, List.length_cons, List.length_nil, List.length_append, List.length_map, tmodN, tdivN]); omega) | rfl | skip) (trivial))))) (by rfl) (fun i hi ih => ?_)
  have hle : i ≤ 8 := hi
  refine Runs.seq ?_
  refine Runs.reg [] [] rfl (by (try simp only [wrap_i64', wrap_u8, wrap_u16, wrap_u32, wrap_u64, wrap_i32, List.length_cons, List.length_nil, List.length_append, List.length_map, tmodN, tdivN]); and_intros <;> first | exact True.intro | omega | skip) ?_
  refine Runs.seq ?_
  refine Runs.condS rfl (fun g9 => ?_) (fun g9 => ?_)
  · try simp only [decide_eq_true_eq, decide_eq_false_iff_not, notT, notF, beq_iff_eq, beq_eq_false_iff_ne, bne_iff_ne, bne_eq_false_iff_eq, tmodN, tdivN, Int.not_lt, Int.not_le] at g9
    refine Runs.skip ?_
    refine Runs.seq ?_
    refine Runs.block ?_
    refine Runs.seq ?_
    refine Runs.reg [] [0] rfl (by (try simp only [wrap_i64', wrap_u8, wrap_u16, wrap_u32, wrap_u64, wrap_i32, List.length_cons, List.length_nil, List.length_append, List.length_map, tmodN, tdivN]); and_intros <;> first | exact True.intro | omega | skip) ?_
    refine Runs.reg [] [0, 1, 2, 3] rfl (by rw [i64_id (x := 8 * (i : Int)) (by omega) (by omega), i64_id (x := 56 - 8 * (i : Int)) (by omega) (by omega)]; simp only [putBlk, List.length_map, List.length_range, Int.toNat_natCast, AV.cells, List.length_cons, List.length_nil]; and_intros <;> first | exact True.intro | omega) ?_
    refine Runs.inBlock ?_
    refine Runs.reg [] [] rfl (by (try simp only [wrap_i64', wrap_u8, wrap_u16, wrap_u32, wrap_u64, wrap_i32, List.length_cons, List.length_nil, List.length_append, List.length_map, tmodN, tdivN]); and_intros <;> first | exact True.intro | omega | skip) ?_
    exact ih (i + 1) _ _ (by first | exact True.intro | omega) (by omega) (by exact agree_cons rfl (by first | with_reducible rfl | (refine congrArg (AV.int _) ?_; (try simp only [wrap_i64', wrap_u8, wrap_u16, wrap_u32, wrap_u64, wrap_i32, List.length_cons, List.length_nil, List.length_append, List.length_map, tmodN, tdivN]); omega) | rfl | skip) (agree_cons rfl (by first | with_reducible rfl | (refine congrArg (AV.int _) ?_; (try simp only [wrap_i64', wrap_u8, wrap_u16, wrap_u32, wrap_u64, wrap_i32, List.length_cons, List.length_nil, List.length_append, List.length_map, tmodN, tdivN]); omega) | rfl | skip) (agree_cons rfl (by first | with_reducible rfl | (refine congrArg (AV.int _) ?_; (try simp only [wrap_i64', wrap_u8, wrap_u16, wrap_u32, wrap_u64, wrap_i32, List.length_cons, List.length_nil, List.length_append, List.length_map, tmodN, tdivN]); omega) | rfl | skip) (agree_cons rfl (by first | with_reducible rfl | (refine congrArg (AV.int _) ?_; (try simp only [wrap_i64', wrap_u8, wrap_u16, wrap_u32, wrap_u64, wrap_i32, List.length_cons, List.length_nil, List.length_append, List.length_map, tmodN, tdivN]); omega) | rfl | skip) (trivial))))) (by rw [put_val n i (by omega)]; simp only [Int.toNat_natCast, Nat.zero_add, Nat.mul_one]; exact congrArg (fun x => [x]) (putBlk_set n i (by omega)))
  · try simp only [decide_eq_true_eq, decide_eq_false_iff_not, notT, notF, beq_iff_eq, beq_eq_false_iff_ne, bne_iff_ne, bne_eq_false_iff_eq, tmodN, tdivN, Int.not_lt, Int.not_le] at g9
    refine Runs.exit rfl ?_
    refine Runs.seq ?_
    refine Runs.reg [] [0] rfl (by (try simp only [wrap_i64', wrap_u8, wrap_u16, wrap_u32, wrap_u64, wrap_i32, List.length_cons, List.length_nil, List.length_append, List.length_map, tmodN, tdivN]); and_intros <;> first | exact True.intro | omega | skip) ?_
    exact Runs.freezeB 2 (put64L n) rfl rfl (Nat.zero_le _) (Nat.le_refl _) (by simp [putBlk]) (put_done n i hi (by omega)) (Runs.drop 0 (Nat.le_refl _) rfl (Runs.retH Tryd.func21 rfl rfl rfl rfl))


def L64 : List UInt8 := [65, 66, 67, 68, 69, 70, 71, 72, 73, 74, 75, 76, 77, 78, 79, 80, 81, 82, 83, 84, 85, 86, 87, 88, 89, 90, 97, 98, 99, 100, 101, 102, 103, 104, 105, 106, 107, 108, 109, 110, 111, 112, 113, 114, 115, 116, 117, 118, 119, 120, 121, 122, 48, 49, 50, 51, 52, 53, 54, 55, 56, 57, 43, 47]
def c64 (i : Nat) : UInt8 := L64.getD i 0
def u24 (x y z : UInt8) : Nat := x.toNat * 65536 + y.toNat * 256 + z.toNat
def b64L : List UInt8 → List UInt8
  | [] => []
  | [x] => [c64 (u24 x 0 0 / 262144), c64 (u24 x 0 0 / 4096 % 64), 61, 61]
  | [x, y] => [c64 (u24 x y 0 / 262144), c64 (u24 x y 0 / 4096 % 64), c64 (u24 x y 0 / 64 % 64), 61]
  | x :: y :: z :: r => c64 (u24 x y z / 262144) :: c64 (u24 x y z / 4096 % 64) :: c64 (u24 x y z / 64 % 64) :: c64 (u24 x y z % 64) :: b64L r
theorem u24_lt (x y z : UInt8) : u24 x y z < 16777216 := by
  have := x.toNat_lt; have := y.toNat_lt; have := z.toNat_lt; unfold u24; omega
theorem or_u (x y z : UInt8) : bitsE .or .u64 (bitsE .or .u64 (IntKind.u64.wrap (IntKind.u64.wrap (x.toNat : Int) * 2 ^ min (Int.toNat 16) IntKind.u64.bits)) (IntKind.u64.wrap (IntKind.u64.wrap (y.toNat : Int) * 2 ^ min (Int.toNat 8) IntKind.u64.bits))) (IntKind.u64.wrap (z.toNat : Int)) = ((u24 x y z : Nat) : Int) := by
  have hx := x.toNat_lt; have hy := y.toNat_lt; have hz := z.toNat_lt
  have e0 : ∀ c : UInt8, IntKind.u64.wrap (c.toNat : Int) = (c.toNat : Int) := fun c => by have := c.toNat_lt; rw [wrap_u64]; omega
  rw [e0, e0, e0]
  have e1 : IntKind.u64.wrap ((x.toNat : Int) * 2 ^ min (Int.toNat 16) IntKind.u64.bits) = ((65536 * x.toNat : Nat) : Int) := by
    show IntKind.u64.wrap ((x.toNat : Int) * 65536) = _
    rw [wrap_u64]; omega
  have e2 : IntKind.u64.wrap ((y.toNat : Int) * 2 ^ min (Int.toNat 8) IntKind.u64.bits) = ((256 * y.toNat : Nat) : Int) := by
    show IntKind.u64.wrap ((y.toNat : Int) * 256) = _
    rw [wrap_u64]; omega
  rw [e1, e2, (Go.Am.bits_nat .u64 (a := 65536 * x.toNat) (b := 256 * y.toNat) (Nat.lt_trans (show 65536 * x.toNat < 16777216 by omega) (by decide)) (Nat.lt_trans (show 256 * y.toNat < 65536 by omega) (by decide)) rfl).2.1]
  have h1 := Nat.two_pow_add_eq_or_of_lt (i := 16) (b := 256 * y.toNat) (show 256 * y.toNat < 2 ^ 16 by omega) x.toNat
  rw [show (2 : Nat) ^ 16 = 65536 from rfl] at h1
  rw [← h1]
  rw [(Go.Am.bits_nat .u64 (a := 65536 * x.toNat + 256 * y.toNat) (b := z.toNat) (Nat.lt_trans (show 65536 * x.toNat + 256 * y.toNat < 16777216 by omega) (by decide)) (Nat.lt_trans hz (by decide)) rfl).2.1]
  have h2 := Nat.two_pow_add_eq_or_of_lt (i := 8) (b := z.toNat) hz (256 * x.toNat + y.toNat)
  rw [show (2 : Nat) ^ 8 = 256 from rfl] at h2
  rw [show 65536 * x.toNat + 256 * y.toNat = 256 * (256 * x.toNat + y.toNat) by omega, ← h2]
  unfold u24; omega
theorem sh18 (n : Nat) : (n : Int).fdiv (2 ^ min (Int.toNat 18) IntKind.u64.bits) = ((n / 262144 : Nat) : Int) := by
  show (n : Int).fdiv 262144 = _
  rw [Int.fdiv_eq_ediv_of_nonneg _ (by decide)]; rfl
theorem sh12 (n : Nat) : (n : Int).fdiv (2 ^ min (Int.toNat 12) IntKind.u64.bits) = ((n / 4096 : Nat) : Int) := by
  show (n : Int).fdiv 4096 = _
  rw [Int.fdiv_eq_ediv_of_nonneg _ (by decide)]; rfl
theorem sh6 (n : Nat) : (n : Int).fdiv (2 ^ min (Int.toNat 6) IntKind.u64.bits) = ((n / 64 : Nat) : Int) := by
  show (n : Int).fdiv 64 = _
  rw [Int.fdiv_eq_ediv_of_nonneg _ (by decide)]; rfl
theorem and63 {m : Nat} (h : m < 16777216) : bitsE .and .u64 (m : Int) 63 = ((m % 64 : Nat) : Int) := by
  have := (Go.Am.bits_nat .u64 (a := m) (b := 63) (Nat.lt_trans h (by decide)) (by decide) rfl).1
  rw [show ((63 : Nat) : Int) = 63 from rfl] at this
  rw [this, show m &&& 63 = m % 64 from Nat.and_two_pow_sub_one_eq_mod m 6]
theorem byteD (c : UInt8) : toB (c.toNat : Int) = c := by simp [toB]
theorem cp_le (n : Nat) : 0 + Nat.min n 3 * 1 ≤ 3 := by
  have h : Nat.min n 3 ≤ 3 := Nat.min_le_right n 3
  generalize Nat.min n 3 = m at h
  omega
theorem d3 (x y z : UInt8) (r : List UInt8) : List.drop (3 : Int).toNat (List.take (((x :: y :: z :: r).length : Nat) : Int).toNat (x :: y :: z :: r)) = r := by
  rw [Int.toNat_natCast, List.take_length]; rfl
theorem binj {a b : List UInt8} {o : Bool} (h : a = b) : AV.bs a o = AV.bs b o := by rw [h]
theorem cp3 (x y z : UInt8) (r : List UInt8) : putCells [.int .u8 0, .int .u8 0, .int .u8 0] 0 ((cpy (Nat.min (r.length + 1 + 1 + 1) 3) (byteEl (x :: y :: z :: r))).map un1) = [.int .u8 x.toNat, .int .u8 y.toNat, .int .u8 z.toNat] := by
  rw [show Nat.min (r.length + 1 + 1 + 1) 3 = 3 from Nat.min_eq_right (by omega)]; rfl
theorem mn3 (n : Nat) : ((Nat.min (n + 1 + 1 + 1) 3 : Nat) : Int) = 3 := by rw [show Nat.min (n + 1 + 1 + 1) 3 = 3 from Nat.min_eq_right (by omega)]; rfl
structure B64I (b rest out : List UInt8) : Prop where
  eq : out ++ b64L rest = b64L b
  le : out.length + 2 * rest.length ≤ 2 * b.length + 4
theorem b64_len : ∀ b : List UInt8, (b64L b).length = (b.length + 2) / 3 * 4
  | [] => rfl
  | [x] => by simp [b64L]
  | [x, y] => by simp [b64L]
  | x :: y :: z :: r => by simp [b64L, b64_len r]; omega

theorem base64_ok (b : List UInt8) (hb : b.length ≤ 1048576) : FnOK Tryd.prog 17 [.bs b false] [] (.str (b64L b)) [] := by
  refine FnOK.of_runs Tryd.func17 rfl (Nat.le_of_ble_eq_true rfl) ?_
  refine Runs.seq ?_
  refine Runs.reg [] [] rfl (by (try simp only [wrap_i64', wrap_u8, wrap_u16, wrap_u32, wrap_u64, wrap_i32, List.length_cons, List.length_nil, List.length_append, List.length_map, tmodN, tdivN]); and_intros <;> first | exact True.intro | omega | skip) ?_
  refine Runs.seq ?_
  refine Runs.reg [] [0] rfl (by rw [i64_id (x := (b.length : Int) + 2) (by omega) (by omega), show ((b.length : Int) + 2) = ((b.length + 2 : Nat) : Int) by omega, tdivN, i64_id (x := ((b.length + 2 : Nat) : Int) / 3) (by omega) (by omega), i64_id (by omega) (by omega)]; and_intros <;> first | exact True.intro | omega) ?_
  refine Runs.seq ?_
  refine Runs.block ?_
  -- loop 0
  refine Runs.loopF (σ := List UInt8 × List UInt8) (fun p => p.2 ++ b64L p.1 = b64L b) (fun p => [(0, .bs p.1 false), (3, .bs p.2 true)]) (fun _ => []) (fun p => p.1.length) ((b, [])) (by rfl) (by exact agree_cons rfl (by first | with_reducible rfl | (refine congrArg (AV.int _) ?_; (try simp only [wrap_i64', wrap_u8, wrap_u16, wrap_u32, wrap_u64, wrap_i32, List.length_cons, List.length_nil, List.length_append, List.length_map, tmodN, tdivN]); omega) | rfl | skip) (agree_cons rfl (by first | with_reducible rfl | (refine congrArg (AV.int _) ?_; (try simp only [wrap_i64', wrap_u8, wrap_u16, wrap_u32, wrap_u64, wrap_i32, List.length_cons, List.length_nil, List.length_append, List.length_map, tmodN, tdivN]); omega) | rfl | skip) (trivial))) (by rfl) (fun ⟨rest, out⟩ hi ih => ?_)
  replace hi : out ++ b64L rest = b64L b := hi; have hln := congrArg List.length hi; simp only [List.length_append, b64_len] at hln
  refine Runs.seq ?_
  refine Runs.seq ?_
  refine Runs.reg [] [0] rfl (by (try simp only [wrap_i64', wrap_u8, wrap_u16, wrap_u32, wrap_u64, wrap_i32, List.length_cons, List.length_nil, List.length_append, List.length_map, tmodN, tdivN]); and_intros <;> first | exact True.intro | omega | skip) ?_
  refine Runs.condS rfl (fun g17 => ?_) (fun g17 => ?_)
  · try simp only [decide_eq_true_eq, decide_eq_false_iff_not, notT, notF, beq_iff_eq, beq_eq_false_iff_ne, bne_iff_ne, bne_eq_false_iff_eq, tmodN, tdivN, Int.not_lt, Int.not_le] at g17
    refine Runs.skip ?_
    refine Runs.block ?_
    refine Runs.seq ?_
    refine Runs.reg [] [] rfl (by (try simp only [wrap_i64', wrap_u8, wrap_u16, wrap_u32, wrap_u64, wrap_i32, List.length_cons, List.length_nil, List.length_append, List.length_map, tmodN, tdivN]); and_intros <;> first | exact True.intro | omega | skip) ?_
    refine Runs.seq ?_
    rcases rest with _ | ⟨x, _ | ⟨y, _ | ⟨z, r⟩⟩⟩
    · (exfalso; simp at g17)
    · skip
      refine Runs.reg [] [1] rfl (by simp only [List.length_cons, List.length_nil, AV.cells, byteEl, isCell, List.all_cons, List.all_nil, Bool.and_self, implies_true]; and_intros <;> first | exact True.intro | omega | decide | exact cp_le _) ?_
      refine Runs.heap (H2 := [[.int .u8 x.toNat, .int .u8 (0 : UInt8).toNat, .int .u8 (0 : UInt8).toNat]]) (by rfl) ?_
      refine Runs.frame [(0, .bs ([x]) false), (3, .bs out true), (4, .ptr 0 0), (5, .int .i64 1)] (by exact agree_cons rfl (by rfl) (agree_cons rfl (by rfl) (agree_cons rfl (by rfl) (agree_cons rfl (by rfl) trivial)))) ?_
      refine Runs.seq ?_
      refine Runs.reg [] [0, 1] rfl (by (try simp only [wrap_i64', wrap_u8, wrap_u16, wrap_u32, wrap_u64, wrap_i32, List.length_cons, List.length_nil, List.length_append, List.length_map, tmodN, tdivN]); and_intros <;> first | exact True.intro | omega | skip) ?_
      refine Runs.seq ?_
      refine Runs.reg [] [] rfl (by (try simp only [wrap_i64', wrap_u8, wrap_u16, wrap_u32, wrap_u64, wrap_i32, List.length_cons, List.length_nil, List.length_append, List.length_map, tmodN, tdivN]); and_intros <;> first | exact True.intro | omega | skip) ?_
      refine Runs.frame [(0, .bs [] false), (3, .bs out true), (5, .int .i64 1), (6, .int .u64 (u24 x 0 0 : Nat))] (by exact agree_cons rfl (by rfl) (agree_cons rfl (by rfl) (agree_cons rfl (by rfl) (agree_cons rfl (by exact congrArg (AV.int _) (or_u _ _ _)) trivial)))) ?_
      have hu : u24 x 0 0 < 16777216 := u24_lt _ _ _
      refine Runs.seq ?_
      refine Runs.regD [] [0, 3, 7, 11] rfl rfl rfl (by rw [sh18, sh12, sh6, and63 (by omega), and63 (by omega), and63 (by omega)]; simp only [List.length_cons, List.length_nil]; and_intros <;> first | exact True.intro | omega | decide | exact Nat.le_refl _) ?_
      refine Runs.heap (H2 := [[.int .u8 x.toNat, .int .u8 (0 : UInt8).toNat, .int .u8 (0 : UInt8).toNat]] ++ [[.int .u8 (c64 (u24 x 0 0 / 262144)).toNat, .int .u8 (c64 (u24 x 0 0 / 4096 % 64)).toNat, .int .u8 (c64 (u24 x 0 0 / 64 % 64)).toNat, .int .u8 (c64 (u24 x 0 0 % 64)).toNat]]) (by rw [sh18, sh12, sh6, and63 (by omega), and63 (by omega), and63 (by omega)]; rfl) ?_
      refine Runs.frame [(0, .bs [] false), (3, .bs out true), (5, .int .i64 1), (7, .ptr 1 0)] (by exact agree_cons rfl (by rfl) (agree_cons rfl (by rfl) (agree_cons rfl (by rfl) (agree_cons rfl (by rfl) trivial)))) ?_
      refine Runs.seq ?_
      refine Runs.seq ?_
      refine Runs.reg [] [0] rfl (by (try simp only [wrap_i64', wrap_u8, wrap_u16, wrap_u32, wrap_u64, wrap_i32, List.length_cons, List.length_nil, List.length_append, List.length_map, tmodN, tdivN]); and_intros <;> first | exact True.intro | omega | skip) ?_
      refine Runs.block ?_
      refine Runs.loop ?_
      refine Runs.inLoop ?_
      refine Runs.seq ?_
      refine Runs.seq ?_
      refine Runs.reg [] [0] rfl (by (try simp only [wrap_i64', wrap_u8, wrap_u16, wrap_u32, wrap_u64, wrap_i32, List.length_cons, List.length_nil, List.length_append, List.length_map, tmodN, tdivN]); and_intros <;> first | exact True.intro | omega | skip) ?_
      refine Runs.condT rfl ?_
      refine Runs.skip ?_
      refine Runs.seq ?_
      refine Runs.block ?_
      refine Runs.reg [] [0] rfl (by simp only [List.length_set, List.length_cons, List.length_nil]; and_intros <;> first | exact True.intro | decide) ?_
      refine Runs.inBlock ?_
      refine Runs.reg [] [] rfl (by (try simp only [wrap_i64', wrap_u8, wrap_u16, wrap_u32, wrap_u64, wrap_i32, List.length_cons, List.length_nil, List.length_append, List.length_map, tmodN, tdivN]); and_intros <;> first | exact True.intro | omega | skip) ?_
      refine Runs.inLoop ?_
      refine Runs.seq ?_
      refine Runs.seq ?_
      refine Runs.reg [] [0] rfl (by (try simp only [wrap_i64', wrap_u8, wrap_u16, wrap_u32, wrap_u64, wrap_i32, List.length_cons, List.length_nil, List.length_append, List.length_map, tmodN, tdivN]); and_intros <;> first | exact True.intro | omega | skip) ?_
      refine Runs.condT rfl ?_
      refine Runs.skip ?_
      refine Runs.seq ?_
      refine Runs.block ?_
      refine Runs.reg [] [0] rfl (by simp only [List.length_set, List.length_cons, List.length_nil]; and_intros <;> first | exact True.intro | decide) ?_
      refine Runs.inBlock ?_
      refine Runs.reg [] [] rfl (by (try simp only [wrap_i64', wrap_u8, wrap_u16, wrap_u32, wrap_u64, wrap_i32, List.length_cons, List.length_nil, List.length_append, List.length_map, tmodN, tdivN]); and_intros <;> first | exact True.intro | omega | skip) ?_
      refine Runs.inLoop ?_
      refine Runs.seq ?_
      refine Runs.seq ?_
      refine Runs.reg [] [0] rfl (by (try simp only [wrap_i64', wrap_u8, wrap_u16, wrap_u32, wrap_u64, wrap_i32, List.length_cons, List.length_nil, List.length_append, List.length_map, tmodN, tdivN]); and_intros <;> first | exact True.intro | omega | skip) ?_
      refine Runs.condF rfl ?_
      refine Runs.exit rfl ?_
      refine Runs.reg [] [] rfl (by simp only [List.length_cons, List.length_nil] at hln; and_intros <;> first | exact True.intro | omega | decide | (intro z hz; simp only [List.mem_cons, List.not_mem_nil, or_false] at hz; rcases hz with rfl | rfl | rfl | rfl <;> first | exact u8b _ | decide)) ?_
      refine Runs.inBlock ?_
      refine Runs.drop 0 (Nat.le_refl _) rfl ?_
      exact ih ([], out ++ [c64 (u24 x 0 0 / 262144), c64 (u24 x 0 0 / 4096 % 64), 61, 61]) _ _ (by rw [← hi]; simp [b64L]) (by simp only [List.length_cons, List.length_nil]; omega) (by exact agree_cons rfl (by rfl) (agree_cons rfl (by exact binj (congrArg (out ++ ·) (by simp only [List.map_cons, List.map_nil, byteD] <;> rfl))) trivial)) (by rfl)
    · skip
      refine Runs.reg [] [1] rfl (by simp only [List.length_cons, List.length_nil, AV.cells, byteEl, isCell, List.all_cons, List.all_nil, Bool.and_self, implies_true]; and_intros <;> first | exact True.intro | omega | decide | exact cp_le _) ?_
      refine Runs.heap (H2 := [[.int .u8 x.toNat, .int .u8 y.toNat, .int .u8 (0 : UInt8).toNat]]) (by rfl) ?_
      refine Runs.frame [(0, .bs ([x, y]) false), (3, .bs out true), (4, .ptr 0 0), (5, .int .i64 2)] (by exact agree_cons rfl (by rfl) (agree_cons rfl (by rfl) (agree_cons rfl (by rfl) (agree_cons rfl (by rfl) trivial)))) ?_
      refine Runs.seq ?_
      refine Runs.reg [] [0, 1] rfl (by (try simp only [wrap_i64', wrap_u8, wrap_u16, wrap_u32, wrap_u64, wrap_i32, List.length_cons, List.length_nil, List.length_append, List.length_map, tmodN, tdivN]); and_intros <;> first | exact True.intro | omega | skip) ?_
      refine Runs.seq ?_
      refine Runs.reg [] [] rfl (by (try simp only [wrap_i64', wrap_u8, wrap_u16, wrap_u32, wrap_u64, wrap_i32, List.length_cons, List.length_nil, List.length_append, List.length_map, tmodN, tdivN]); and_intros <;> first | exact True.intro | omega | skip) ?_
      refine Runs.frame [(0, .bs [] false), (3, .bs out true), (5, .int .i64 2), (6, .int .u64 (u24 x y 0 : Nat))] (by exact agree_cons rfl (by rfl) (agree_cons rfl (by rfl) (agree_cons rfl (by rfl) (agree_cons rfl (by exact congrArg (AV.int _) (or_u _ _ _)) trivial)))) ?_
      have hu : u24 x y 0 < 16777216 := u24_lt _ _ _
      refine Runs.seq ?_
      refine Runs.regD [] [0, 3, 7, 11] rfl rfl rfl (by rw [sh18, sh12, sh6, and63 (by omega), and63 (by omega), and63 (by omega)]; simp only [List.length_cons, List.length_nil]; and_intros <;> first | exact True.intro | omega | decide | exact Nat.le_refl _) ?_
      refine Runs.heap (H2 := [[.int .u8 x.toNat, .int .u8 y.toNat, .int .u8 (0 : UInt8).toNat]] ++ [[.int .u8 (c64 (u24 x y 0 / 262144)).toNat, .int .u8 (c64 (u24 x y 0 / 4096 % 64)).toNat, .int .u8 (c64 (u24 x y 0 / 64 % 64)).toNat, .int .u8 (c64 (u24 x y 0 % 64)).toNat]]) (by rw [sh18, sh12, sh6, and63 (by omega), and63 (by omega), and63 (by omega)]; rfl) ?_
      refine Runs.frame [(0, .bs [] false), (3, .bs out true), (5, .int .i64 2), (7, .ptr 1 0)] (by exact agree_cons rfl (by rfl) (agree_cons rfl (by rfl) (agree_cons rfl (by rfl) (agree_cons rfl (by rfl) trivial)))) ?_
      refine Runs.seq ?_
      refine Runs.seq ?_
      refine Runs.reg [] [0] rfl (by (try simp only [wrap_i64', wrap_u8, wrap_u16, wrap_u32, wrap_u64, wrap_i32, List.length_cons, List.length_nil, List.length_append, List.length_map, tmodN, tdivN]); and_intros <;> first | exact True.intro | omega | skip) ?_
      refine Runs.block ?_
      refine Runs.loop ?_
      refine Runs.inLoop ?_
      refine Runs.seq ?_
      refine Runs.seq ?_
      refine Runs.reg [] [0] rfl (by (try simp only [wrap_i64', wrap_u8, wrap_u16, wrap_u32, wrap_u64, wrap_i32, List.length_cons, List.length_nil, List.length_append, List.length_map, tmodN, tdivN]); and_intros <;> first | exact True.intro | omega | skip) ?_
      refine Runs.condT rfl ?_
      refine Runs.skip ?_
      refine Runs.seq ?_
      refine Runs.block ?_
      refine Runs.reg [] [0] rfl (by simp only [List.length_set, List.length_cons, List.length_nil]; and_intros <;> first | exact True.intro | decide) ?_
      refine Runs.inBlock ?_
      refine Runs.reg [] [] rfl (by (try simp only [wrap_i64', wrap_u8, wrap_u16, wrap_u32, wrap_u64, wrap_i32, List.length_cons, List.length_nil, List.length_append, List.length_map, tmodN, tdivN]); and_intros <;> first | exact True.intro | omega | skip) ?_
      refine Runs.inLoop ?_
      refine Runs.seq ?_
      refine Runs.seq ?_
      refine Runs.reg [] [0] rfl (by (try simp only [wrap_i64', wrap_u8, wrap_u16, wrap_u32, wrap_u64, wrap_i32, List.length_cons, List.length_nil, List.length_append, List.length_map, tmodN, tdivN]); and_intros <;> first | exact True.intro | omega | skip) ?_
      refine Runs.condF rfl ?_
      refine Runs.exit rfl ?_
      refine Runs.reg [] [] rfl (by simp only [List.length_cons, List.length_nil] at hln; and_intros <;> first | exact True.intro | omega | decide | (intro z hz; simp only [List.mem_cons, List.not_mem_nil, or_false] at hz; rcases hz with rfl | rfl | rfl | rfl <;> first | exact u8b _ | decide)) ?_
      refine Runs.inBlock ?_
      refine Runs.drop 0 (Nat.le_refl _) rfl ?_
      exact ih ([], out ++ [c64 (u24 x y 0 / 262144), c64 (u24 x y 0 / 4096 % 64), c64 (u24 x y 0 / 64 % 64), 61]) _ _ (by rw [← hi]; simp [b64L]) (by simp only [List.length_cons, List.length_nil]; omega) (by exact agree_cons rfl (by rfl) (agree_cons rfl (by exact binj (congrArg (out ++ ·) (by simp only [List.map_cons, List.map_nil, byteD] <;> rfl))) trivial)) (by rfl)
    · skip
      refine Runs.reg [] [1] rfl (by simp only [List.length_cons, List.length_nil, AV.cells, byteEl, isCell, List.all_cons, List.all_nil, Bool.and_self, implies_true]; and_intros <;> first | exact True.intro | omega | decide | exact cp_le _) ?_
      refine Runs.heap (H2 := [[.int .u8 x.toNat, .int .u8 y.toNat, .int .u8 z.toNat]]) (by exact congrArg (fun x => [x]) (cp3 x y z r)) ?_
      refine Runs.frame [(0, .bs (x :: y :: z :: r) false), (3, .bs out true), (4, .ptr 0 0), (5, .int .i64 3)] (by exact agree_cons rfl (by rfl) (agree_cons rfl (by rfl) (agree_cons rfl (by rfl) (agree_cons rfl (by exact congrArg (AV.int _) (mn3 r.length)) trivial)))) ?_
      refine Runs.seq ?_
      refine Runs.reg [] [0, 1] rfl (by (try simp only [wrap_i64', wrap_u8, wrap_u16, wrap_u32, wrap_u64, wrap_i32, List.length_cons, List.length_nil, List.length_append, List.length_map, tmodN, tdivN]); and_intros <;> first | exact True.intro | omega | skip) ?_
      refine Runs.seq ?_
      refine Runs.reg [] [] rfl (by (try simp only [wrap_i64', wrap_u8, wrap_u16, wrap_u32, wrap_u64, wrap_i32, List.length_cons, List.length_nil, List.length_append, List.length_map, tmodN, tdivN]); and_intros <;> first | exact True.intro | omega | skip) ?_
      refine Runs.frame [(0, .bs r false), (3, .bs out true), (5, .int .i64 3), (6, .int .u64 (u24 x y z : Nat))] (by exact agree_cons rfl (by exact binj (d3 x y z r)) (agree_cons rfl (by rfl) (agree_cons rfl (by rfl) (agree_cons rfl (by exact congrArg (AV.int _) (or_u _ _ _)) trivial)))) ?_
      have hu : u24 x y z < 16777216 := u24_lt _ _ _
      refine Runs.seq ?_
      refine Runs.regD [] [0, 3, 7, 11] rfl rfl rfl (by rw [sh18, sh12, sh6, and63 (by omega), and63 (by omega), and63 (by omega)]; simp only [List.length_cons, List.length_nil]; and_intros <;> first | exact True.intro | omega | decide | exact Nat.le_refl _) ?_
      refine Runs.heap (H2 := [[.int .u8 x.toNat, .int .u8 y.toNat, .int .u8 z.toNat]] ++ [[.int .u8 (c64 (u24 x y z / 262144)).toNat, .int .u8 (c64 (u24 x y z / 4096 % 64)).toNat, .int .u8 (c64 (u24 x y z / 64 % 64)).toNat, .int .u8 (c64 (u24 x y z % 64)).toNat]]) (by rw [sh18, sh12, sh6, and63 (by omega), and63 (by omega), and63 (by omega)]; rfl) ?_
      refine Runs.frame [(0, .bs r false), (3, .bs out true), (5, .int .i64 3), (7, .ptr 1 0)] (by exact agree_cons rfl (by rfl) (agree_cons rfl (by rfl) (agree_cons rfl (by rfl) (agree_cons rfl (by rfl) trivial)))) ?_
      refine Runs.seq ?_
      refine Runs.seq ?_
      refine Runs.reg [] [0] rfl (by (try simp only [wrap_i64', wrap_u8, wrap_u16, wrap_u32, wrap_u64, wrap_i32, List.length_cons, List.length_nil, List.length_append, List.length_map, tmodN, tdivN]); and_intros <;> first | exact True.intro | omega | skip) ?_
      refine Runs.block ?_
      refine Runs.loop ?_
      refine Runs.inLoop ?_
      refine Runs.seq ?_
      refine Runs.seq ?_
      refine Runs.reg [] [0] rfl (by (try simp only [wrap_i64', wrap_u8, wrap_u16, wrap_u32, wrap_u64, wrap_i32, List.length_cons, List.length_nil, List.length_append, List.length_map, tmodN, tdivN]); and_intros <;> first | exact True.intro | omega | skip) ?_
      refine Runs.condF rfl ?_
      refine Runs.exit rfl ?_
      refine Runs.reg [] [] rfl (by simp only [List.length_cons, List.length_nil] at hln; and_intros <;> first | exact True.intro | omega | decide | (intro z hz; simp only [List.mem_cons, List.not_mem_nil, or_false] at hz; rcases hz with rfl | rfl | rfl | rfl <;> first | exact u8b _ | decide)) ?_
      refine Runs.inBlock ?_
      refine Runs.drop 0 (Nat.le_refl _) rfl ?_
      exact ih (r, out ++ [c64 (u24 x y z / 262144), c64 (u24 x y z / 4096 % 64), c64 (u24 x y z / 64 % 64), c64 (u24 x y z % 64)]) _ _ (by rw [← hi]; simp [b64L]) (by simp only [List.length_cons, List.length_nil]; omega) (by exact agree_cons rfl (by rfl) (agree_cons rfl (by exact binj (congrArg (out ++ ·) (by simp only [List.map_cons, List.map_nil, byteD] <;> rfl))) trivial)) (by rfl)
  · try simp only [decide_eq_true_eq, decide_eq_false_iff_not, notT, notF, beq_iff_eq, beq_eq_false_iff_ne, bne_iff_ne, bne_eq_false_iff_eq, tmodN, tdivN, Int.not_lt, Int.not_le] at g17
    refine Runs.exit rfl ?_
    refine Runs.seq ?_
    refine Runs.reg [] [0] rfl (by (try simp only [wrap_i64', wrap_u8, wrap_u16, wrap_u32, wrap_u64, wrap_i32, List.length_cons, List.length_nil, List.length_append, List.length_map, tmodN, tdivN]); and_intros <;> first | exact True.intro | omega | skip) ?_
    exact Runs.retH Tryd.func17 rfl rfl (by have := List.eq_nil_of_length_eq_zero (show rest.length = 0 by omega); subst this; simpa [b64L] using hi) (by rfl)


theorem el2 {a b : Nat → AV} (h0 : a 0 = b 0) (h1 : a 1 = b 1) (i : Nat) (h : i < 2) : a i = b i := by
  rcases (show i = 0 ∨ i = 1 by omega) with rfl | rfl
  · exact h0
  · exact h1

theorem awake1_ok : FnOK Tryd.prog 13 [] [] (.bool true) [] := by
  refine FnOK.of_runs Tryd.func13 rfl (Nat.le_of_ble_eq_true rfl) ?_
  refine Runs.seq ?_
  refine Runs.reg [] [] rfl (by (try simp only [wrap_i64', wrap_u8, wrap_u16, wrap_u32, wrap_u64, wrap_i32, List.length_cons, List.length_nil, List.length_append, List.length_map, tmodN, tdivN]); and_intros <;> first | exact True.intro | omega | skip) ?_
  refine Runs.seq ?_
  refine Runs.reg [(0, { res := .tup [.bs [10, 255] false, .bool true] })] [] rfl (by and_intros <;> first | exact True.intro | exact unhex_ok [48, 97, 102, 102] (by decide)) ?_
  refine Runs.seq ?_
  refine Runs.reg [(0, { res := .tup [.int .i64 42, .bool true] })] [] rfl (by and_intros <;> first | exact True.intro | exact int_ok [52, 50] (by decide)) ?_
  refine Runs.seq ?_
  refine Runs.region ?_
  refine Runs.restTo 2 [(22, { res := .str (b64L [77, 97, 110]) }), (27, { res := .bs [0, 0, 0, 2, 97, 98, 0, 0, 0, 0] false }), (32, { res := .bs [0, 0, 0, 0, 0, 0, 0, 1] false })] [0, 2, 5, 10, 16] rfl (by and_intros <;> first | exact True.intro | decide | exact base64_ok [77, 97, 110] (by decide) | exact put64_ok 1 (by decide) | exact (pack_ok [[97, 98], []] false (by decide) (by decide)).arg ⟨⟨Imp.sl (m := 2) (by intro i hi; exact el2 (by rfl) (by rfl) i hi), rfl, rfl⟩, True.intro⟩) ?_
  refine Runs.splitS 14 rfl (fun g14 => ?_) (fun g14 => ?_)
  · try simp only [decide_eq_true_eq, decide_eq_false_iff_not, notT, notF, beq_iff_eq, beq_eq_false_iff_ne, bne_iff_ne, bne_eq_false_iff_eq, tmodN, tdivN, Int.not_lt, Int.not_le] at g14
    refine Runs.restTo 3 [(22, { res := .str (b64L [77, 97, 110]) }), (27, { res := .bs [0, 0, 0, 2, 97, 98, 0, 0, 0, 0] false }), (32, { res := .bs [0, 0, 0, 0, 0, 0, 0, 1] false })] [0, 2, 5, 10, 16] rfl (by and_intros <;> first | exact True.intro | decide | exact base64_ok [77, 97, 110] (by decide) | exact put64_ok 1 (by decide) | exact (pack_ok [[97, 98], []] false (by decide) (by decide)).arg ⟨⟨Imp.sl (m := 2) (by intro i hi; exact el2 (by rfl) (by rfl) i hi), rfl, rfl⟩, True.intro⟩) ?_
    refine Runs.splitS 17 rfl (fun g17 => ?_) (fun g17 => ?_)
    · try simp only [decide_eq_true_eq, decide_eq_false_iff_not, notT, notF, beq_iff_eq, beq_eq_false_iff_ne, bne_iff_ne, bne_eq_false_iff_eq, tmodN, tdivN, Int.not_lt, Int.not_le] at g17
      refine Runs.restTo 5 [(22, { res := .str (b64L [77, 97, 110]) }), (27, { res := .bs [0, 0, 0, 2, 97, 98, 0, 0, 0, 0] false }), (32, { res := .bs [0, 0, 0, 0, 0, 0, 0, 1] false })] [0, 2, 5, 10, 16] rfl (by and_intros <;> first | exact True.intro | decide | exact base64_ok [77, 97, 110] (by decide) | exact put64_ok 1 (by decide) | exact (pack_ok [[97, 98], []] false (by decide) (by decide)).arg ⟨⟨Imp.sl (m := 2) (by intro i hi; exact el2 (by rfl) (by rfl) i hi), rfl, rfl⟩, True.intro⟩) ?_
      refine Runs.splitS 22 rfl (fun g22 => ?_) (fun g22 => ?_)
      · try simp only [decide_eq_true_eq, decide_eq_false_iff_not, notT, notF, beq_iff_eq, beq_eq_false_iff_ne, bne_iff_ne, bne_eq_false_iff_eq, tmodN, tdivN, Int.not_lt, Int.not_le] at g22
        refine Runs.restTo 6 [(22, { res := .str (b64L [77, 97, 110]) }), (27, { res := .bs [0, 0, 0, 2, 97, 98, 0, 0, 0, 0] false }), (32, { res := .bs [0, 0, 0, 0, 0, 0, 0, 1] false })] [0, 2, 5, 10, 16] rfl (by and_intros <;> first | exact True.intro | decide | exact base64_ok [77, 97, 110] (by decide) | exact put64_ok 1 (by decide) | exact (pack_ok [[97, 98], []] false (by decide) (by decide)).arg ⟨⟨Imp.sl (m := 2) (by intro i hi; exact el2 (by rfl) (by rfl) i hi), rfl, rfl⟩, True.intro⟩) ?_
        refine Runs.splitS 28 rfl (fun g28 => ?_) (fun g28 => ?_)
        · try simp only [decide_eq_true_eq, decide_eq_false_iff_not, notT, notF, beq_iff_eq, beq_eq_false_iff_ne, bne_iff_ne, bne_eq_false_iff_eq, tmodN, tdivN, Int.not_lt, Int.not_le] at g28
          refine Runs.restTo 4 [(22, { res := .str (b64L [77, 97, 110]) }), (27, { res := .bs [0, 0, 0, 2, 97, 98, 0, 0, 0, 0] false }), (32, { res := .bs [0, 0, 0, 0, 0, 0, 0, 1] false })] [0, 2, 5, 10, 16] rfl (by and_intros <;> first | exact True.intro | decide | exact base64_ok [77, 97, 110] (by decide) | exact put64_ok 1 (by decide) | exact (pack_ok [[97, 98], []] false (by decide) (by decide)).arg ⟨⟨Imp.sl (m := 2) (by intro i hi; exact el2 (by rfl) (by rfl) i hi), rfl, rfl⟩, True.intro⟩) ?_
          refine Runs.splitS 32 rfl (fun g32 => ?_) (fun g32 => ?_)
          · try simp only [decide_eq_true_eq, decide_eq_false_iff_not, notT, notF, beq_iff_eq, beq_eq_false_iff_ne, bne_iff_ne, bne_eq_false_iff_eq, tmodN, tdivN, Int.not_lt, Int.not_le] at g32
            refine Runs.litConv rfl rfl rfl rfl rfl rfl rfl rfl rfl rfl rfl rfl rfl rfl (by simp) ?_
            refine Runs.restTo 4 [(22, { res := .str (b64L [77, 97, 110]) }), (27, { res := .bs [0, 0, 0, 2, 97, 98, 0, 0, 0, 0] false }), (32, { res := .bs [0, 0, 0, 0, 0, 0, 0, 1] false })] [0, 2, 5, 10, 16] rfl (by and_intros <;> first | exact True.intro | decide | exact base64_ok [77, 97, 110] (by decide) | exact put64_ok 1 (by decide) | exact (pack_ok [[97, 98], []] false (by decide) (by decide)).arg ⟨⟨Imp.sl (m := 2) (by intro i hi; exact el2 (by rfl) (by rfl) i hi), rfl, rfl⟩, True.intro⟩) ?_
            refine Runs.splitS 38 rfl (fun g38 => ?_) (fun g38 => ?_)
            · try simp only [decide_eq_true_eq, decide_eq_false_iff_not, notT, notF, beq_iff_eq, beq_eq_false_iff_ne, bne_iff_ne, bne_eq_false_iff_eq, tmodN, tdivN, Int.not_lt, Int.not_le] at g38
              refine Runs.restTo 6 [(22, { res := .str (b64L [77, 97, 110]) }), (27, { res := .bs [0, 0, 0, 2, 97, 98, 0, 0, 0, 0] false }), (32, { res := .bs [0, 0, 0, 0, 0, 0, 0, 1] false })] [0, 2, 5, 10, 16] rfl (by and_intros <;> first | exact True.intro | decide | exact base64_ok [77, 97, 110] (by decide) | exact put64_ok 1 (by decide) | exact (pack_ok [[97, 98], []] false (by decide) (by decide)).arg ⟨⟨Imp.sl (m := 2) (by intro i hi; exact el2 (by rfl) (by rfl) i hi), rfl, rfl⟩, True.intro⟩) ?_
              refine Runs.splitS 44 rfl (fun g44 => ?_) (fun g44 => ?_)
              · try simp only [decide_eq_true_eq, decide_eq_false_iff_not, notT, notF, beq_iff_eq, beq_eq_false_iff_ne, bne_iff_ne, bne_eq_false_iff_eq, tmodN, tdivN, Int.not_lt, Int.not_le] at g44
                refine Runs.rest [(22, { res := .str (b64L [77, 97, 110]) }), (27, { res := .bs [0, 0, 0, 2, 97, 98, 0, 0, 0, 0] false }), (32, { res := .bs [0, 0, 0, 0, 0, 0, 0, 1] false })] [0, 2, 5, 10, 16] rfl (by and_intros <;> first | exact True.intro | decide | exact base64_ok [77, 97, 110] (by decide) | exact put64_ok 1 (by decide) | exact (pack_ok [[97, 98], []] false (by decide) (by decide)).arg ⟨⟨Imp.sl (m := 2) (by intro i hi; exact el2 (by rfl) (by rfl) i hi), rfl, rfl⟩, True.intro⟩) ?_
                exact Runs.retH Tryd.func13 rfl rfl (by rfl) (by rfl)
              · try simp only [decide_eq_true_eq, decide_eq_false_iff_not, notT, notF, beq_iff_eq, beq_eq_false_iff_ne, bne_iff_ne, bne_eq_false_iff_eq, tmodN, tdivN, Int.not_lt, Int.not_le] at g44
                exact absurd g44 (by decide)
            · try simp only [decide_eq_true_eq, decide_eq_false_iff_not, notT, notF, beq_iff_eq, beq_eq_false_iff_ne, bne_iff_ne, bne_eq_false_iff_eq, tmodN, tdivN, Int.not_lt, Int.not_le] at g38
              exact absurd g38 (by decide)
          · try simp only [decide_eq_true_eq, decide_eq_false_iff_not, notT, notF, beq_iff_eq, beq_eq_false_iff_ne, bne_iff_ne, bne_eq_false_iff_eq, tmodN, tdivN, Int.not_lt, Int.not_le] at g32
            exact absurd g32 (by decide)
        · try simp only [decide_eq_true_eq, decide_eq_false_iff_not, notT, notF, beq_iff_eq, beq_eq_false_iff_ne, bne_iff_ne, bne_eq_false_iff_eq, tmodN, tdivN, Int.not_lt, Int.not_le] at g28
          exact absurd g28 (by decide)
      · try simp only [decide_eq_true_eq, decide_eq_false_iff_not, notT, notF, beq_iff_eq, beq_eq_false_iff_ne, bne_iff_ne, bne_eq_false_iff_eq, tmodN, tdivN, Int.not_lt, Int.not_le] at g22
        exact absurd g22 (by decide)
    · try simp only [decide_eq_true_eq, decide_eq_false_iff_not, notT, notF, beq_iff_eq, beq_eq_false_iff_ne, bne_iff_ne, bne_eq_false_iff_eq, tmodN, tdivN, Int.not_lt, Int.not_le] at g17
      exact absurd g17 (by decide)
  · try simp only [decide_eq_true_eq, decide_eq_false_iff_not, notT, notF, beq_iff_eq, beq_eq_false_iff_ne, bne_iff_ne, bne_eq_false_iff_eq, tmodN, tdivN, Int.not_lt, Int.not_le] at g14
    exact absurd g14 (by decide)


theorem dec_small {m : Nat} (h : m < 10) : Lib.decDigits m = [UInt8.ofNat (48 + m)] := by rw [Lib.decDigits, dif_pos h]
theorem dec_big {m : Nat} (h : ¬ m < 10) : Lib.decDigits m = Lib.decDigits (m / 10) ++ [UInt8.ofNat (48 + m % 10)] := by rw [Lib.decDigits, dif_neg h]
theorem hxd_dec {d : Nat} (h : d < 10) : hxd d = UInt8.ofNat (48 + d) := by
  have : ∀ d : Fin 10, hxd d.val = UInt8.ofNat (48 + d.val) := by decide
  exact this ⟨d, h⟩
theorem dec_len : ∀ (m : Nat), m < 18446744073709551616 → (Lib.decDigits m).length ≤ 20 := by
  have key : ∀ k m : Nat, 1 ≤ k → m < 10 ^ k → (Lib.decDigits m).length ≤ k := by
    intro k
    induction k with
    | zero => intro m h1 h2; omega
    | succ k ih =>
      intro m h1 h2
      by_cases h : m < 10
      · rw [dec_small h]; simp
      · rw [dec_big h, List.length_append]
        have hk : 1 ≤ k := by
          rcases Nat.eq_zero_or_pos k with h0 | h0
          · subst h0; simp at h2; omega
          · exact h0
        have := ih (m / 10) hk (by rw [Nat.pow_succ] at h2; omega)
        simp only [List.length_cons, List.length_nil]; omega
  intro m h
  exact key 20 m (by decide) (Nat.lt_trans h (by decide))
theorem itoa_nat (m : Nat) : Lib.itoa (m : Int) = Lib.decDigits m := by
  unfold Lib.itoa; rw [if_neg (by omega)]; simp
theorem itoa_neg {n : Int} (h : n < 0) : Lib.itoa n = 45 :: Lib.decDigits n.natAbs := by
  unfold Lib.itoa; rw [if_pos h]
theorem itoa_min : Lib.itoa (-9223372036854775808) = [45, 57, 50, 50, 51, 51, 55, 50, 48, 51, 54, 56, 53, 52, 55, 55, 53, 56, 48, 56] := by
  rw [itoa_neg (by decide)]; simp [Lib.decDigits]
theorem itoa_len {n : Int} (h0 : -9223372036854775808 ≤ n) (h1 : n ≤ 9223372036854775807) : (Lib.itoa n).length ≤ 21 := by
  by_cases h : n < 0
  · rw [itoa_neg h]; have := dec_len n.natAbs (by omega); simp only [List.length_cons]; omega
  · obtain ⟨m, rfl⟩ := Int.eq_ofNat_of_zero_le (show 0 ≤ n by omega)
    rw [itoa_nat]; have := dec_len m (by omega); omega
structure TxI (n m : Nat) (out : List UInt8) : Prop where
  eq : Lib.decDigits m ++ out = Lib.decDigits n
  le : m ≤ n
theorem TxI.step {n m out} (h : TxI n m out) (hm : ¬ m < 10) : TxI n (m / 10) ([hxd (m % 10)] ++ out) := by
  refine ⟨?_, Nat.le_trans (Nat.div_le_self _ _) h.le⟩
  rw [← h.eq, dec_big hm, hxd_dec (Nat.mod_lt _ (by decide))]; simp
theorem TxI.done {n m out} (h : TxI n m out) (hm : m < 10) : [hxd m] ++ out = Lib.decDigits n := by
  rw [← h.eq, dec_small hm, hxd_dec hm]
theorem TxI.len {n m out} (h : TxI n m out) (hn : n < 18446744073709551616) : out.length ≤ 20 := by
  have := congrArg List.length h.eq
  have := dec_len n hn
  rw [List.length_append] at *; omega

theorem text_ok (n : Int) (h0 : -9223372036854775808 ≤ n) (h1 : n ≤ 9223372036854775807) : FnOK Tryd.prog 11 [.int .i64 n] [] (.str (Lib.itoa n)) [] := by
  refine FnOK.of_runs Tryd.func11 rfl (Nat.le_of_ble_eq_true rfl) ?_
  refine Runs.seq ?_
  refine Runs.reg [] [] rfl (by (try simp only [wrap_i64', wrap_u8, wrap_u16, wrap_u32, wrap_u64, wrap_i32, List.length_cons, List.length_nil, List.length_append, List.length_map, tmodN, tdivN]); and_intros <;> first | exact True.intro | omega | skip) ?_
  refine Runs.seq ?_
  refine Runs.reg [(1, { res := .str (Lib.itoa n) })] [0] rfl (by and_intros <;> first | exact True.intro | exact itoa_ok n h0 h1) ?_
  exact Runs.retH Tryd.func11 rfl rfl (by first | with_reducible rfl | (refine congrArg (AV.int _) ?_; (try simp only [wrap_i64', wrap_u8, wrap_u16, wrap_u32, wrap_u64, wrap_i32, List.length_cons, List.length_nil, List.length_append, List.length_map, tmodN, tdivN]); omega) | rfl | skip) (by rfl)

theorem rtextN_ok (n : Nat) (h1 : n ≤ 9223372036854775807) : FnOK Tryd.prog 12 [.int .i64 n] [] (.str (Lib.decDigits n)) [] := by
  refine FnOK.of_runs Tryd.func12 rfl (Nat.le_of_ble_eq_true rfl) ?_
  refine Runs.seq ?_
  refine Runs.reg [] [] rfl (by (try simp only [wrap_i64', wrap_u8, wrap_u16, wrap_u32, wrap_u64, wrap_i32, List.length_cons, List.length_nil, List.length_append, List.length_map, tmodN, tdivN]); and_intros <;> first | exact True.intro | omega | skip) ?_
  refine Runs.seq ?_
  refine Runs.seq ?_
  refine Runs.reg [] [0] rfl (by (try simp only [wrap_i64', wrap_u8, wrap_u16, wrap_u32, wrap_u64, wrap_i32, List.length_cons, List.length_nil, List.length_append, List.length_map, tmodN, tdivN]); and_intros <;> first | exact True.intro | omega | skip) ?_
  refine Runs.condS rfl (fun g5 => ?_) (fun g5 => ?_)
  · try simp only [decide_eq_true_eq, decide_eq_false_iff_not, notT, notF, beq_iff_eq, beq_eq_false_iff_ne, bne_iff_ne, bne_eq_false_iff_eq, tmodN, tdivN, Int.not_lt, Int.not_le] at g5
    exfalso; omega
  · try simp only [decide_eq_true_eq, decide_eq_false_iff_not, notT, notF, beq_iff_eq, beq_eq_false_iff_ne, bne_iff_ne, bne_eq_false_iff_eq, tmodN, tdivN, Int.not_lt, Int.not_le] at g5
    refine Runs.skip ?_
    refine Runs.seq ?_
    refine Runs.reg [] [] rfl (by (try simp only [wrap_i64', wrap_u8, wrap_u16, wrap_u32, wrap_u64, wrap_i32, List.length_cons, List.length_nil, List.length_append, List.length_map, tmodN, tdivN]); and_intros <;> first | exact True.intro | omega | skip) ?_
    refine Runs.seq ?_
    refine Runs.block ?_
    -- loop 0
    refine Runs.loopF (σ := Nat × List UInt8) (fun p => TxI n p.1 p.2) (fun p => [(0, .int .i64 p.1), (3, .str p.2)]) (fun _ => []) (fun p => p.1) ((n, [])) (by exact ⟨by simp, Nat.le_refl _⟩) (by exact agree_cons rfl (by first | with_reducible rfl | (refine congrArg (AV.int _) ?_; (try simp only [wrap_i64', wrap_u8, wrap_u16, wrap_u32, wrap_u64, wrap_i32, List.length_cons, List.length_nil, List.length_append, List.length_map, tmodN, tdivN]); omega) | rfl | skip) (agree_cons rfl (by first | with_reducible rfl | (refine congrArg (AV.int _) ?_; (try simp only [wrap_i64', wrap_u8, wrap_u16, wrap_u32, wrap_u64, wrap_i32, List.length_cons, List.length_nil, List.length_append, List.length_map, tmodN, tdivN]); omega) | rfl | skip) (trivial))) (by rfl) (fun ⟨m, out⟩ hi ih => ?_)
    replace hi : TxI n m out := hi; have hle := hi.le; have hln := hi.len (by omega); dsimp only
    refine Runs.seq ?_
    refine Runs.seq ?_
    refine Runs.reg [] [0] rfl (by (try simp only [wrap_i64', wrap_u8, wrap_u16, wrap_u32, wrap_u64, wrap_i32, List.length_cons, List.length_nil, List.length_append, List.length_map, tmodN, tdivN]); and_intros <;> first | exact True.intro | omega | skip) ?_
    refine Runs.condS rfl (fun g15 => ?_) (fun g15 => ?_)
    · try simp only [decide_eq_true_eq, decide_eq_false_iff_not, notT, notF, beq_iff_eq, beq_eq_false_iff_ne, bne_iff_ne, bne_eq_false_iff_eq, tmodN, tdivN, Int.not_lt, Int.not_le] at g15
      refine Runs.skip ?_
      refine Runs.block ?_
      refine Runs.seq ?_
      refine Runs.reg [(1, { res := .int .i64 (m % 10 : Nat) }), (2, { res := .str [hxd (m % 10)] })] [0] rfl (by simp only [List.length_append, List.length_cons, List.length_nil]; and_intros <;> first | exact True.intro | decide | rfl | exact rdigit_ok _ (by omega) | omega) ?_
      refine Runs.reg [(1, { res := .int .i64 (m / 10 : Nat) })] [] rfl (by and_intros <;> first | exact True.intro | decide | (refine congrArg (AV.int _) ?_; rw [tdivN, i64_id (by omega) (by omega)]; rfl)) ?_
      refine Runs.inBlock ?_
      exact ih (m / 10, [hxd (m % 10)] ++ out) _ _ (by exact hi.step (by omega)) (by simp only; omega) (by exact agree_cons rfl (by first | with_reducible rfl | (refine congrArg (AV.int _) ?_; (try simp only [wrap_i64', wrap_u8, wrap_u16, wrap_u32, wrap_u64, wrap_i32, List.length_cons, List.length_nil, List.length_append, List.length_map, tmodN, tdivN]); omega) | rfl | skip) (agree_cons rfl (by first | with_reducible rfl | (refine congrArg (AV.int _) ?_; (try simp only [wrap_i64', wrap_u8, wrap_u16, wrap_u32, wrap_u64, wrap_i32, List.length_cons, List.length_nil, List.length_append, List.length_map, tmodN, tdivN]); omega) | rfl | skip) (trivial))) (by rfl)
    · try simp only [decide_eq_true_eq, decide_eq_false_iff_not, notT, notF, beq_iff_eq, beq_eq_false_iff_ne, bne_iff_ne, bne_eq_false_iff_eq, tmodN, tdivN, Int.not_lt, Int.not_le] at g15
      refine Runs.exit rfl ?_
      refine Runs.seq ?_
      refine Runs.reg [(1, { res := .str [hxd m] })] [0, 2] rfl (by simp only [List.length_append, List.length_cons, List.length_nil]; and_intros <;> first | exact True.intro | decide | rfl | exact rdigit_ok _ (by omega) | omega) ?_
      exact Runs.retH Tryd.func12 rfl rfl (by exact congrArg AV.str (hi.done (by omega))) (by rfl)

theorem rtextZ_ok (n : Int) (h0 : -9223372036854775808 ≤ n) (hn : n < 0) : FnOK Tryd.prog 12 [.int .i64 n] [] (.str (Lib.itoa n)) [] := by
  refine FnOK.of_runs Tryd.func12 rfl (Nat.le_of_ble_eq_true rfl) ?_
  refine Runs.seq ?_
  refine Runs.reg [] [] rfl (by (try simp only [wrap_i64', wrap_u8, wrap_u16, wrap_u32, wrap_u64, wrap_i32, List.length_cons, List.length_nil, List.length_append, List.length_map, tmodN, tdivN]); and_intros <;> first | exact True.intro | omega | skip) ?_
  refine Runs.seq ?_
  refine Runs.seq ?_
  refine Runs.reg [] [0] rfl (by (try simp only [wrap_i64', wrap_u8, wrap_u16, wrap_u32, wrap_u64, wrap_i32, List.length_cons, List.length_nil, List.length_append, List.length_map, tmodN, tdivN]); and_intros <;> first | exact True.intro | omega | skip) ?_
  refine Runs.condS rfl (fun g5 => ?_) (fun g5 => ?_)
  · try simp only [decide_eq_true_eq, decide_eq_false_iff_not, notT, notF, beq_iff_eq, beq_eq_false_iff_ne, bne_iff_ne, bne_eq_false_iff_eq, tmodN, tdivN, Int.not_lt, Int.not_le] at g5
    refine Runs.seq ?_
    refine Runs.seq ?_
    refine Runs.reg [] [0, 1] rfl (by and_intros <;> first | exact True.intro | omega) ?_
    refine Runs.condS rfl (fun g9 => ?_) (fun g9 => ?_)
    · try simp only [decide_eq_true_eq, decide_eq_false_iff_not, notT, notF, beq_iff_eq, beq_eq_false_iff_ne, bne_iff_ne, bne_eq_false_iff_eq, tmodN, tdivN, Int.not_lt, Int.not_le] at g9
      have hm : n = -9223372036854775808 := by rw [wrap_i64'] at g9; omega
      refine Runs.seq ?_
      refine Runs.reg [] [] rfl (by (try simp only [wrap_i64', wrap_u8, wrap_u16, wrap_u32, wrap_u64, wrap_i32, List.length_cons, List.length_nil, List.length_append, List.length_map, tmodN, tdivN]); and_intros <;> first | exact True.intro | omega | skip) ?_
      exact Runs.retH Tryd.func12 rfl rfl (by subst hm; rw [itoa_min]) (by rfl)
    · try simp only [decide_eq_true_eq, decide_eq_false_iff_not, notT, notF, beq_iff_eq, beq_eq_false_iff_ne, bne_iff_ne, bne_eq_false_iff_eq, tmodN, tdivN, Int.not_lt, Int.not_le] at g9
      have hm : n ≠ -9223372036854775808 := by rw [wrap_i64'] at g9; omega
      refine Runs.skip ?_
      refine Runs.seq ?_
      refine Runs.reg [(1, { res := .int .i64 (n.natAbs : Nat) }), (2, { res := .str (Lib.decDigits n.natAbs) })] [0] rfl (by have := dec_len n.natAbs (by omega); simp only [List.length_append, List.length_cons, List.length_nil]; and_intros <;> first | exact True.intro | omega | exact rtextN_ok _ (by omega) | (refine congrArg (AV.int _) ?_; rw [i64_id (by omega) (by omega)]; omega)) ?_
      exact Runs.retH Tryd.func12 rfl rfl (by rw [itoa_neg hn]; rfl) (by rfl)
  · try simp only [decide_eq_true_eq, decide_eq_false_iff_not, notT, notF, beq_iff_eq, beq_eq_false_iff_ne, bne_iff_ne, bne_eq_false_iff_eq, tmodN, tdivN, Int.not_lt, Int.not_le] at g5
    exfalso; omega


theorem rtext_ok (n : Int) (h0 : -9223372036854775808 ≤ n) (h1 : n ≤ 9223372036854775807) : FnOK Tryd.prog 12 [.int .i64 n] [] (.str (Lib.itoa n)) [] := by
  by_cases h : n < 0
  · exact rtextZ_ok n h0 h
  · obtain ⟨m, rfl⟩ := Int.eq_ofNat_of_zero_le (show 0 ≤ n by omega)
    rw [itoa_nat]
    exact rtextN_ok m (by omega)

theorem rint_ok (s : List UInt8) (hs : s.length ≤ 1048576) : FnOK Tryd.prog 10 [.str s] [] (.tup [.int .i64 ((intF s).getD 0 : Nat), .bool (intF s).isSome]) [] := by
  refine FnOK.of_runs Tryd.func10 rfl (Nat.le_of_ble_eq_true rfl) ?_
  refine Runs.seq ?_
  refine Runs.reg [] [] rfl (by (try simp only [wrap_i64', wrap_u8, wrap_u16, wrap_u32, wrap_u64, wrap_i32, List.length_cons, List.length_nil, List.length_append, List.length_map, tmodN, tdivN]); and_intros <;> first | exact True.intro | omega | skip) ?_
  refine Runs.seq ?_
  refine Runs.seq ?_
  refine Runs.meet (σ := Bool) (fun g => g = true ↔ (s.length < 1 ∨ 18 < s.length ∨ (1 < s.length ∧ (s.getD 0 0).toNat = 48))) (fun g => [(0, .str s), (23, .bool g)]) (fun _ => []) (fun g hg => ?_) (fun meet_a => ?_)
  · skip
    refine Runs.condS rfl (fun g23 => ?_) (fun g23 => ?_)
    · try simp only [decide_eq_true_eq, decide_eq_false_iff_not, notT, notF, beq_iff_eq, beq_eq_false_iff_ne, bne_iff_ne, bne_eq_false_iff_eq, tmodN, tdivN, Int.not_lt, Int.not_le] at g23
      refine Runs.seq ?_
      refine Runs.reg [] [] rfl (by (try simp only [wrap_i64', wrap_u8, wrap_u16, wrap_u32, wrap_u64, wrap_i32, List.length_cons, List.length_nil, List.length_append, List.length_map, tmodN, tdivN]); and_intros <;> first | exact True.intro | omega | skip) ?_
      exact Runs.retH Tryd.func10 rfl rfl (by rw [intF_none (hg.1 g23)]; rfl) (by rfl)
    · try simp only [decide_eq_true_eq, decide_eq_false_iff_not, notT, notF, beq_iff_eq, beq_eq_false_iff_ne, bne_iff_ne, bne_eq_false_iff_eq, tmodN, tdivN, Int.not_lt, Int.not_le] at g23
      refine Runs.skip ?_
      refine Runs.seq ?_
      refine Runs.reg [] [] rfl (by (try simp only [wrap_i64', wrap_u8, wrap_u16, wrap_u32, wrap_u64, wrap_i32, List.length_cons, List.length_nil, List.length_append, List.length_map, tmodN, tdivN]); and_intros <;> first | exact True.intro | omega | skip) ?_
      refine Runs.seq ?_
      refine Runs.seq ?_
      refine Runs.reg [] [] rfl (by (try simp only [wrap_i64', wrap_u8, wrap_u16, wrap_u32, wrap_u64, wrap_i32, List.length_cons, List.length_nil, List.length_append, List.length_map, tmodN, tdivN]); and_intros <;> first | exact True.intro | omega | skip) ?_
      refine Runs.block ?_
      -- loop 0
      have hcs := Bool.eq_false_iff.1 g23; rw [Ne, hg] at hcs
      refine Runs.loopF (σ := Nat × Nat) (fun p => DecI s p.1 p.2) (fun p => [(0, .str s), (4, .int .i64 p.2), (5, .int .i64 p.1)]) (fun _ => []) (fun p => s.length - p.1) ((0, 0)) (by exact ⟨Nat.zero_le _, by omega, by decide, rfl⟩) (by exact agree_cons rfl (by first | with_reducible rfl | (refine congrArg (AV.int _) ?_; (try simp only [wrap_i64', wrap_u8, wrap_u16, wrap_u32, wrap_u64, wrap_i32, List.length_cons, List.length_nil, List.length_append, List.length_map, tmodN, tdivN]); omega) | rfl | skip) (agree_cons rfl (by first | with_reducible rfl | (refine congrArg (AV.int _) ?_; (try simp only [wrap_i64', wrap_u8, wrap_u16, wrap_u32, wrap_u64, wrap_i32, List.length_cons, List.length_nil, List.length_append, List.length_map, tmodN, tdivN]); omega) | rfl | skip) (agree_cons rfl (by first | with_reducible rfl | (refine congrArg (AV.int _) ?_; (try simp only [wrap_i64', wrap_u8, wrap_u16, wrap_u32, wrap_u64, wrap_i32, List.length_cons, List.length_nil, List.length_append, List.length_map, tmodN, tdivN]); omega) | rfl | skip) (trivial)))) (by rfl) (fun ⟨i, m⟩ hi ih => ?_)
      have hi : DecI s i m := hi; have hle := hi.le; have h18 := hi.le18; have hn := hi.n18; have h17 := hi.n17; have hc := u8lt (s.getD (i : Int).toNat 0)
      refine Runs.seq ?_
      refine Runs.seq ?_
      refine Runs.reg [] [0, 1] rfl (by (try simp only [wrap_i64', wrap_u8, wrap_u16, wrap_u32, wrap_u64, wrap_i32, List.length_cons, List.length_nil, List.length_append, List.length_map, tmodN, tdivN]); and_intros <;> first | exact True.intro | omega | skip) ?_
      refine Runs.condS rfl (fun g27 => ?_) (fun g27 => ?_)
      · try simp only [decide_eq_true_eq, decide_eq_false_iff_not, notT, notF, beq_iff_eq, beq_eq_false_iff_ne, bne_iff_ne, bne_eq_false_iff_eq, tmodN, tdivN, Int.not_lt, Int.not_le] at g27
        refine Runs.skip ?_
        refine Runs.seq ?_
        refine Runs.block ?_
        refine Runs.seq ?_
        refine Runs.seq ?_
        refine Runs.region ?_
        refine Runs.restTo 5 [] [0, 1, 5, 6] rfl (by (try simp only [wrap_i64', wrap_u8, wrap_u16, wrap_u32, wrap_u64, wrap_i32, List.length_cons, List.length_nil, List.length_append, List.length_map, tmodN, tdivN]); and_intros <;> first | exact True.intro | omega | skip) ?_
        refine Runs.splitS 34 rfl (fun g34 => ?_) (fun g34 => ?_)
        · try simp only [decide_eq_true_eq, decide_eq_false_iff_not, notT, notF, beq_iff_eq, beq_eq_false_iff_ne, bne_iff_ne, bne_eq_false_iff_eq, tmodN, tdivN, Int.not_lt, Int.not_le] at g34
          refine Runs.rest [] [0, 1, 5, 6] rfl (by (try simp only [wrap_i64', wrap_u8, wrap_u16, wrap_u32, wrap_u64, wrap_i32, List.length_cons, List.length_nil, List.length_append, List.length_map, tmodN, tdivN]); and_intros <;> first | exact True.intro | omega | skip) ?_
          refine Runs.condT rfl ?_
          refine Runs.seq ?_
          refine Runs.reg [] [] rfl (by (try simp only [wrap_i64', wrap_u8, wrap_u16, wrap_u32, wrap_u64, wrap_i32, List.length_cons, List.length_nil, List.length_append, List.length_map, tmodN, tdivN]); and_intros <;> first | exact True.intro | omega | skip) ?_
          exact Runs.retH Tryd.func10 rfl rfl (by rw [intF_dec hcs, hi.bad (by omega) (by simp only [Int.toNat_natCast] at g34; omega)]; rfl) (by rfl)
        · try simp only [decide_eq_true_eq, decide_eq_false_iff_not, notT, notF, beq_iff_eq, beq_eq_false_iff_ne, bne_iff_ne, bne_eq_false_iff_eq, tmodN, tdivN, Int.not_lt, Int.not_le] at g34
          refine Runs.rest [] [0, 1, 5, 6] rfl (by (try simp only [wrap_i64', wrap_u8, wrap_u16, wrap_u32, wrap_u64, wrap_i32, List.length_cons, List.length_nil, List.length_append, List.length_map, tmodN, tdivN]); and_intros <;> first | exact True.intro | omega | skip) ?_
          refine Runs.condS rfl (fun g39 => ?_) (fun g39 => ?_)
          · try simp only [decide_eq_true_eq, decide_eq_false_iff_not, notT, notF, beq_iff_eq, beq_eq_false_iff_ne, bne_iff_ne, bne_eq_false_iff_eq, tmodN, tdivN, Int.not_lt, Int.not_le] at g39
            refine Runs.seq ?_
            refine Runs.reg [] [] rfl (by (try simp only [wrap_i64', wrap_u8, wrap_u16, wrap_u32, wrap_u64, wrap_i32, List.length_cons, List.length_nil, List.length_append, List.length_map, tmodN, tdivN]); and_intros <;> first | exact True.intro | omega | skip) ?_
            exact Runs.retH Tryd.func10 rfl rfl (by rw [intF_dec hcs, hi.bad (by omega) (by simp only [Int.toNat_natCast] at g39; omega)]; rfl) (by rfl)
          · try simp only [decide_eq_true_eq, decide_eq_false_iff_not, notT, notF, beq_iff_eq, beq_eq_false_iff_ne, bne_iff_ne, bne_eq_false_iff_eq, tmodN, tdivN, Int.not_lt, Int.not_le] at g39
            refine Runs.skip ?_
            refine Runs.reg [] [2, 3] rfl (by (try simp only [wrap_i64', wrap_u8, wrap_u16, wrap_u32, wrap_u64, wrap_i32, List.length_cons, List.length_nil, List.length_append, List.length_map, tmodN, tdivN]); and_intros <;> first | exact True.intro | omega | skip) ?_
            refine Runs.inBlock ?_
            refine Runs.reg [] [] rfl (by (try simp only [wrap_i64', wrap_u8, wrap_u16, wrap_u32, wrap_u64, wrap_i32, List.length_cons, List.length_nil, List.length_append, List.length_map, tmodN, tdivN]); and_intros <;> first | exact True.intro | omega | skip) ?_
            exact ih (i + 1, 10 * m + ((s.getD (i : Int).toNat 0).toNat - 48)) _ _ (by exact hi.step (by omega) ⟨Int.ofNat_le.1 g34, Int.ofNat_le.1 g39⟩) (by simp only; omega) (by exact agree_cons rfl (by first | with_reducible rfl | (refine congrArg (AV.int _) ?_; (try simp only [wrap_i64', wrap_u8, wrap_u16, wrap_u32, wrap_u64, wrap_i32, List.length_cons, List.length_nil, List.length_append, List.length_map, tmodN, tdivN]); omega) | rfl | skip) (agree_cons rfl (by have h17 := h17 (by omega); rw [u8_id (x := ((s.getD (i : Int).toNat 0).toNat : Int) - 48) (by omega) (by omega), i64_id (x := 10 * (m : Int)) (by omega) (by omega), i64_id (x := ((s.getD (i : Int).toNat 0).toNat : Int) - 48) (by omega) (by omega), i64_id (by omega) (by omega)]; refine congrArg (AV.int _) ?_; simp only []; omega) (agree_cons rfl (by first | with_reducible rfl | (refine congrArg (AV.int _) ?_; (try simp only [wrap_i64', wrap_u8, wrap_u16, wrap_u32, wrap_u64, wrap_i32, List.length_cons, List.length_nil, List.length_append, List.length_map, tmodN, tdivN]); omega) | rfl | skip) (trivial)))) (by rfl)
      · try simp only [decide_eq_true_eq, decide_eq_false_iff_not, notT, notF, beq_iff_eq, beq_eq_false_iff_ne, bne_iff_ne, bne_eq_false_iff_eq, tmodN, tdivN, Int.not_lt, Int.not_le] at g27
        refine Runs.exit rfl ?_
        refine Runs.seq ?_
        refine Runs.reg [] [0] rfl (by (try simp only [wrap_i64', wrap_u8, wrap_u16, wrap_u32, wrap_u64, wrap_i32, List.length_cons, List.length_nil, List.length_append, List.length_map, tmodN, tdivN]); and_intros <;> first | exact True.intro | omega | skip) ?_
        exact Runs.retH Tryd.func10 rfl rfl (by rw [intF_dec hcs, hi.done (by omega)]; rfl) (by rfl)
  · skip
    refine Runs.region ?_
    refine Runs.restTo 4 [] [0, 4, 9, 13] rfl (by (try simp only [wrap_i64', wrap_u8, wrap_u16, wrap_u32, wrap_u64, wrap_i32, List.length_cons, List.length_nil, List.length_append, List.length_map, tmodN, tdivN]); and_intros <;> first | exact True.intro | omega | skip) ?_
    refine Runs.splitS 9 rfl (fun g9 => ?_) (fun g9 => ?_)
    · try simp only [decide_eq_true_eq, decide_eq_false_iff_not, notT, notF, beq_iff_eq, beq_eq_false_iff_ne, bne_iff_ne, bne_eq_false_iff_eq, tmodN, tdivN, Int.not_lt, Int.not_le] at g9
      refine Runs.rest [] [0, 4, 9, 13] rfl (by (try simp only [wrap_i64', wrap_u8, wrap_u16, wrap_u32, wrap_u64, wrap_i32, List.length_cons, List.length_nil, List.length_append, List.length_map, tmodN, tdivN]); and_intros <;> first | exact True.intro | omega | skip) ?_
      exact meet_a (true) _ _ (by (try rw [Int.toNat_zero] at g18); simp only [decide_eq_true_eq, beq_iff_eq, true_iff, Bool.false_eq_true, false_iff]; omega) (by exact agree_cons rfl (by first | with_reducible rfl | (refine congrArg (AV.int _) ?_; (try simp only [wrap_i64', wrap_u8, wrap_u16, wrap_u32, wrap_u64, wrap_i32, List.length_cons, List.length_nil, List.length_append, List.length_map, tmodN, tdivN]); omega) | rfl | skip) (agree_cons rfl (by first | with_reducible rfl | (refine congrArg (AV.int _) ?_; (try simp only [wrap_i64', wrap_u8, wrap_u16, wrap_u32, wrap_u64, wrap_i32, List.length_cons, List.length_nil, List.length_append, List.length_map, tmodN, tdivN]); omega) | rfl | skip) (trivial))) (by rfl)
    · try simp only [decide_eq_true_eq, decide_eq_false_iff_not, notT, notF, beq_iff_eq, beq_eq_false_iff_ne, bne_iff_ne, bne_eq_false_iff_eq, tmodN, tdivN, Int.not_lt, Int.not_le] at g9
      refine Runs.restTo 5 [] [0, 4, 9, 13] rfl (by (try simp only [wrap_i64', wrap_u8, wrap_u16, wrap_u32, wrap_u64, wrap_i32, List.length_cons, List.length_nil, List.length_append, List.length_map, tmodN, tdivN]); and_intros <;> first | exact True.intro | omega | skip) ?_
      refine Runs.splitS 14 rfl (fun g14 => ?_) (fun g14 => ?_)
      · try simp only [decide_eq_true_eq, decide_eq_false_iff_not, notT, notF, beq_iff_eq, beq_eq_false_iff_ne, bne_iff_ne, bne_eq_false_iff_eq, tmodN, tdivN, Int.not_lt, Int.not_le] at g14
        refine Runs.rest [] [0, 4, 9, 13] rfl (by (try simp only [wrap_i64', wrap_u8, wrap_u16, wrap_u32, wrap_u64, wrap_i32, List.length_cons, List.length_nil, List.length_append, List.length_map, tmodN, tdivN]); and_intros <;> first | exact True.intro | omega | skip) ?_
        exact meet_a (true) _ _ (by (try rw [Int.toNat_zero] at g18); simp only [decide_eq_true_eq, beq_iff_eq, true_iff, Bool.false_eq_true, false_iff]; omega) (by exact agree_cons rfl (by first | with_reducible rfl | (refine congrArg (AV.int _) ?_; (try simp only [wrap_i64', wrap_u8, wrap_u16, wrap_u32, wrap_u64, wrap_i32, List.length_cons, List.length_nil, List.length_append, List.length_map, tmodN, tdivN]); omega) | rfl | skip) (agree_cons rfl (by first | with_reducible rfl | (refine congrArg (AV.int _) ?_; (try simp only [wrap_i64', wrap_u8, wrap_u16, wrap_u32, wrap_u64, wrap_i32, List.length_cons, List.length_nil, List.length_append, List.length_map, tmodN, tdivN]); omega) | rfl | skip) (trivial))) (by rfl)
      · try simp only [decide_eq_true_eq, decide_eq_false_iff_not, notT, notF, beq_iff_eq, beq_eq_false_iff_ne, bne_iff_ne, bne_eq_false_iff_eq, tmodN, tdivN, Int.not_lt, Int.not_le] at g14
        refine Runs.restTo 4 [] [0, 4, 9, 13] rfl (by (try simp only [wrap_i64', wrap_u8, wrap_u16, wrap_u32, wrap_u64, wrap_i32, List.length_cons, List.length_nil, List.length_append, List.length_map, tmodN, tdivN]); and_intros <;> first | exact True.intro | omega | skip) ?_
        refine Runs.splitS 18 rfl (fun g18 => ?_) (fun g18 => ?_)
        · try simp only [decide_eq_true_eq, decide_eq_false_iff_not, notT, notF, beq_iff_eq, beq_eq_false_iff_ne, bne_iff_ne, bne_eq_false_iff_eq, tmodN, tdivN, Int.not_lt, Int.not_le] at g18
          refine Runs.rest [] [0, 4, 9, 13] rfl (by (try simp only [wrap_i64', wrap_u8, wrap_u16, wrap_u32, wrap_u64, wrap_i32, List.length_cons, List.length_nil, List.length_append, List.length_map, tmodN, tdivN]); and_intros <;> first | exact True.intro | omega | skip) ?_
          exact meet_a (decide ((1 : Int) < (s.length : Int))) _ _ (by (try rw [Int.toNat_zero] at g18); simp only [decide_eq_true_eq, beq_iff_eq, true_iff, Bool.false_eq_true, false_iff]; omega) (by exact agree_cons rfl (by first | with_reducible rfl | (refine congrArg (AV.int _) ?_; (try simp only [wrap_i64', wrap_u8, wrap_u16, wrap_u32, wrap_u64, wrap_i32, List.length_cons, List.length_nil, List.length_append, List.length_map, tmodN, tdivN]); omega) | rfl | skip) (agree_cons rfl (by first | with_reducible rfl | (refine congrArg (AV.int _) ?_; (try simp only [wrap_i64', wrap_u8, wrap_u16, wrap_u32, wrap_u64, wrap_i32, List.length_cons, List.length_nil, List.length_append, List.length_map, tmodN, tdivN]); omega) | rfl | skip) (trivial))) (by rfl)
        · try simp only [decide_eq_true_eq, decide_eq_false_iff_not, notT, notF, beq_iff_eq, beq_eq_false_iff_ne, bne_iff_ne, bne_eq_false_iff_eq, tmodN, tdivN, Int.not_lt, Int.not_le] at g18
          refine Runs.rest [] [0, 4, 9, 13] rfl (by (try simp only [wrap_i64', wrap_u8, wrap_u16, wrap_u32, wrap_u64, wrap_i32, List.length_cons, List.length_nil, List.length_append, List.length_map, tmodN, tdivN]); and_intros <;> first | exact True.intro | omega | skip) ?_
          exact meet_a (false) _ _ (by (try rw [Int.toNat_zero] at g18); simp only [decide_eq_true_eq, beq_iff_eq, true_iff, Bool.false_eq_true, false_iff]; omega) (by exact agree_cons rfl (by first | with_reducible rfl | (refine congrArg (AV.int _) ?_; (try simp only [wrap_i64', wrap_u8, wrap_u16, wrap_u32, wrap_u64, wrap_i32, List.length_cons, List.length_nil, List.length_append, List.length_map, tmodN, tdivN]); omega) | rfl | skip) (agree_cons rfl (by first | with_reducible rfl | (refine congrArg (AV.int _) ?_; (try simp only [wrap_i64', wrap_u8, wrap_u16, wrap_u32, wrap_u64, wrap_i32, List.length_cons, List.length_nil, List.length_append, List.length_map, tmodN, tdivN]); omega) | rfl | skip) (trivial))) (by rfl)


theorem encNumbers_ok (n : Int) (s : List UInt8) (h0 : -9223372036854775808 ≤ n) (h1 : n ≤ 9223372036854775807) (hs : s.length ≤ 1048576) : FnOK Tryd.prog 4 [.int .i64 n, .str s] [] (.bool true) [] := by
  refine FnOK.of_runs Tryd.func4 rfl (Nat.le_of_ble_eq_true rfl) ?_
  refine Runs.seq ?_
  refine Runs.reg [] [] rfl (by (try simp only [wrap_i64', wrap_u8, wrap_u16, wrap_u32, wrap_u64, wrap_i32, List.length_cons, List.length_nil, List.length_append, List.length_map, tmodN, tdivN]); and_intros <;> first | exact True.intro | omega | skip) ?_
  refine Runs.seq ?_
  refine Runs.reg [(1, { res := .tup [.int .i64 ((intF s).getD 0 : Nat), .bool (intF s).isSome] })] [0] rfl (by and_intros <;> first | exact True.intro | exact int_ok s hs) ?_
  refine Runs.seq ?_
  refine Runs.reg [(1, { res := .tup [.int .i64 ((intF s).getD 0 : Nat), .bool (intF s).isSome] })] [0] rfl (by and_intros <;> first | exact True.intro | exact rint_ok s hs) ?_
  refine Runs.seq ?_
  refine Runs.region ?_
  refine Runs.rest [(2, { res := .bool true }), (6, { res := .bool true }), (10, { res := .str (Lib.itoa n) }), (12, { res := .str (Lib.itoa n) }), (13, { res := .bool true }), (16, { res := .bool true })] [0, 1, 4, 5, 9, 11] rfl (by and_intros <;> first | exact True.intro | exact text_ok n h0 h1 | exact rtext_ok n h0 h1 | exact awake1_ok | (refine congrArg AV.bool ?_; simp)) ?_
  exact Runs.retH Tryd.func4 rfl rfl (by rfl) (by rfl)

end Go.Proofs.YtfkpdfpnpcdhaaaDoor
namespace Go.Proofs.YtfkpdfpnpcdhaaaDoor
open Go.ChangeShapes Go.WideShapes Go.ChangeAt Go.RowKit Go.Am
theorem gT : Tryd.prog.globalNamed "internal/strconv.uint64pow10" = some 0 := by kernel_rfl
theorem cells35 : Tryd.prog.cellsOf 35 = 1 := by kernel_rfl
theorem cellsT : Tryd.prog.cellsOf 63 = 20 := by kernel_rfl
theorem gTy : (Tryd.prog.globals[0]?).map (·.type) = some 63 := by kernel_rfl
theorem tabIn {W : World} (h : laidMetH Tryd.prog [("math/bits.deBruijn32tab", Rows.laid_math_bits_deBruijn32tab), ("math/bits.deBruijn64tab", Rows.laid_math_bits_deBruijn64tab), ("internal/strconv.uint64pow10", Rows.laid_internal_strconv_uint64pow10)] W) : TabIn W := by
  have h1 : laidMet Tryd.prog [("math/bits.deBruijn32tab", Rows.laid_math_bits_deBruijn32tab), ("math/bits.deBruijn64tab", Rows.laid_math_bits_deBruijn64tab), ("internal/strconv.uint64pow10", Rows.laid_internal_strconv_uint64pow10)] W := h
  have ht : Lib.TabIs Tryd.prog W "internal/strconv.uint64pow10" .u64 Lib.pow10Tab :=
    Lib.tabIs_of_head (rest := []) gT gTy Tryd.underlying63 Tryd.underlying35 cells35 cellsT (show laidMet Tryd.prog (("internal/strconv.uint64pow10", Lib.tabData .u64 Lib.pow10Tab) :: []) W from laidMet.tail (laidMet.tail h1))
  intro b cs hk
  simp only [Tab.k] at hk
  split at hk
  · rename_i hb
    subst hb
    simp only [Option.some.injEq] at hk
    subst hk
    unfold Lib.TabIs World.var? at ht
    rw [gT] at ht
    simp only [Option.bind_some] at ht
    split at ht
    · rename_i c e fz hh
      simp only [Option.some.injEq] at ht
      exact ⟨e, fz, by rw [hh, ht]⟩
    · simp at ht
  · simp at hk
noncomputable def laidWorld (os : Os) : World :=
  let w := World.holding Tryd.prog os ⟨#[], #[], []⟩
  let lay := fun (o : Obj) (cs : Array Value) => match o with
    | .cells _ t frozen => Obj.cells cs t frozen
    | o => o
  { w with heap := ((w.heap.modify 0 fun o => lay o #[.int .u64 1, .int .u64 10, .int .u64 100, .int .u64 1000, .int .u64 10000, .int .u64 100000, .int .u64 1000000, .int .u64 10000000, .int .u64 100000000, .int .u64 1000000000, .int .u64 10000000000, .int .u64 100000000000, .int .u64 1000000000000, .int .u64 10000000000000, .int .u64 100000000000000, .int .u64 1000000000000000, .int .u64 10000000000000000, .int .u64 100000000000000000, .int .u64 1000000000000000000, .int .u64 10000000000000000000]).modify 1 fun o => lay o #[.int .u8 0, .int .u8 1, .int .u8 28, .int .u8 2, .int .u8 29, .int .u8 14, .int .u8 24, .int .u8 3, .int .u8 30, .int .u8 22, .int .u8 20, .int .u8 15, .int .u8 25, .int .u8 17, .int .u8 4, .int .u8 8, .int .u8 31, .int .u8 27, .int .u8 13, .int .u8 23, .int .u8 21, .int .u8 19, .int .u8 16, .int .u8 7, .int .u8 26, .int .u8 12, .int .u8 18, .int .u8 6, .int .u8 11, .int .u8 5, .int .u8 10, .int .u8 9]).modify 2 fun o => lay o #[.int .u8 0, .int .u8 1, .int .u8 56, .int .u8 2, .int .u8 57, .int .u8 49, .int .u8 28, .int .u8 3, .int .u8 61, .int .u8 58, .int .u8 42, .int .u8 50, .int .u8 38, .int .u8 29, .int .u8 17, .int .u8 4, .int .u8 62, .int .u8 47, .int .u8 59, .int .u8 36, .int .u8 45, .int .u8 43, .int .u8 51, .int .u8 22, .int .u8 53, .int .u8 39, .int .u8 33, .int .u8 30, .int .u8 24, .int .u8 18, .int .u8 12, .int .u8 5, .int .u8 63, .int .u8 55, .int .u8 48, .int .u8 27, .int .u8 60, .int .u8 41, .int .u8 37, .int .u8 16, .int .u8 46, .int .u8 35, .int .u8 44, .int .u8 21, .int .u8 52, .int .u8 32, .int .u8 23, .int .u8 11, .int .u8 54, .int .u8 26, .int .u8 40, .int .u8 15, .int .u8 34, .int .u8 20, .int .u8 31, .int .u8 10, .int .u8 25, .int .u8 14, .int .u8 19, .int .u8 9, .int .u8 13, .int .u8 8, .int .u8 7, .int .u8 6] }

end Go.Proofs.YtfkpdfpnpcdhaaaDoor
namespace Go.Proofs.YtfkpdfpnpcdhaaaDoor.encNumbers
open Go.ChangeShapes Go.WideShapes Go.ChangeAt Go.RowKit Go.Am
theorem own : ownKnob Tryd.prog.godebug = none := by kernel_rfl
theorem contract (H : Type) (enc : TypeId × Value → H) (W : World) (base : Nat) (args : Array Value) (ds gs : List (DataW H)) (before : List MemPlace)
    (hval : ∀ (j : Nat) t v, Tryd.f4.params[j]? = some t → args[j]? = some v → Value.okWide Tryd.prog W .any base t v)
    (hW : DataW.Whole enc Tryd.prog Tryd.f4.params.toList Rows.encNumbersSpec.vars false W args.toList ds gs before) (hk : Rows.uptoSmall H (ds ++ gs) = true) (hL : laidMetH Tryd.prog Rows.encNumbersUptoRow.laid W) :
    Calls Tryd.prog 4 args W fun e W' => ∃ v, e = .returned v ∧ Rows.encNumbersSpec.post enc Tryd.prog Tryd.f4 false true false false W args v W' := by
  have hW' := hW
  obtain ⟨p, q, hA0, hV, rfl, hfz, hnd⟩ := hW
  have hA : DataW.TrodAll enc Tryd.prog W 0 (fun _ => true) true Tryd.f4.params.toList args.toList ds p := hA0
  rw [Tryd.params4] at hA hval
  obtain ⟨v0, vs0, d0, ds0, p0, q0, hargs, rfl, rfl, h0, r0⟩ := trodAll_cons hA
  obtain ⟨v1, vs1, d1, ds1, p1, q1, rfl, rfl, rfl, h1, r1⟩ := trodAll_cons r0
  obtain ⟨rfl, rfl, rfl⟩ := trodAll_nil r1
  obtain rfl : args = #[v0, v1] := by cases args; simp_all
  obtain ⟨rfl, rfl⟩ := trodVars_none hV
  obtain ⟨n0, rfl, rfl, w0, g0⟩ := arg_int Tryd.underlying3 (hval 0 3 v0 rfl rfl) h0
  obtain ⟨l1, e1, rfl, g1⟩ := arg_str Tryd.underlying9 (hval 1 9 v1 rfl rfl) h1
  have hb := of_decide_eq_true hk
  simp only [List.append_nil, Rows.uptoBulkAll] at hb
  have hn0 : -9223372036854775808 ≤ n0 ∧ n0 < 9223372036854775808 := by
    simp [Lit.wf, IntKind.min, IntKind.max, IntKind.signed, IntKind.bits] at w0
    omega
  have hl1 : l1.length ≤ 1048576 := by (try simp only [Rows.uptoBulk] at hb); omega
  refine ((encNumbers_ok n0 l1 hn0.1 (by omega) hl1).law W (tabIn hL) [.int .i64 n0, v1] rfl (fun i c v k1 k2 => ?_)).mono fun e W' ⟨he, hg⟩ => ?_
  · match i, k1, k2 with
    | 0, k1, k2 => simp at k1 k2; subst k1; subst k2; exact ⟨g0, rfl⟩
    | 1, k1, k2 => simp at k1 k2; subst k1; subst k2; exact ⟨g1, rfl⟩
    | i + 2, k1, _ => simp at k1
  subst he
  exact ⟨_, rfl, post_law (by kernel_rfl) hW' rfl rfl rfl Tryd.underlying4 (by kernel_rfl) hg⟩
theorem laid_met (os : Os) : laidMet Tryd.prog Rows.encNumbersUptoRow.laid ((laidWorld os).forCall (fun _ _ => 0) ⟨#[], #[.int .i64 0, .string ⟨#[]⟩], []⟩).memory :=
  laidMet_of_run' 8 (by kernel_rfl) (by kernel_rfl)
theorem reads (os : Os) {H : Type} (enc : TypeId × Value → H) : ∃ places, DataW.whole enc Tryd.prog ((laidWorld os).forCall (fun _ _ => 0) ⟨#[], #[.int .i64 0, .string ⟨#[]⟩], []⟩).memory Tryd.f4.params.toList Rows.encNumbersSpec.vars false (#[.int .i64 0, .string ⟨#[]⟩] : Array Value).toList 8 = some ([.lit (.int .i64 0), .lit (.string [])], [], places) :=
  ⟨[], by kernel_rfl⟩
set_option maxRecDepth 100000 in
theorem lifted (os : Os) (started : os.Started) (H : Type) (enc : TypeId × Value → H) (F : Stop.Interp) :
    ReturnsInHanded {} Tryd.checked os 4 .any ((Rows.OpenSpec.upto Rows.encNumbersSpec).preRow enc Tryd.prog Tryd.f4 Rows.encNumbersUptoRow.domain false Rows.encNumbersUptoRow.laid) (((Rows.OpenSpec.upto Rows.encNumbersSpec).at F).post enc Tryd.prog Tryd.f4 false true false false) := by
  obtain ⟨places, hx⟩ := reads os enc
  refine returnsInHanded_of_row (C := Tryd.checked) (s := Rows.OpenSpec.upto Rows.encNumbersSpec) own started (by kernel_rfl) Tryd.func4
    (witness_row_at (enc := enc) (C := Tryd.checked) false (laidWorld os) #[.int .i64 0, .string ⟨#[]⟩] rfl (by kernel_rfl) (by kernel_rfl) (by kernel_rfl)
      (OpenSpec.preRow_of_cond 8 hx (by kernel_rfl) (fun k hk => by cases hk; kernel_rfl) (by kernel_rfl) (laid_met os))) ?_
  intro W base args ds gs before hval hW _ hcond _ hL _ _
  exact contract H enc W base args ds gs before hval hW (hcond _ rfl) hL
theorem saidUpto : Rows.EncNumbersUptoSaid :=
  OpenClaim.holds_of_cond 4 Tryd.f4 rfl rfl rfl rfl rfl rfl rfl ⟨rfl, rfl, rfl, rfl, rfl⟩ rfl rfl rfl rfl rfl (by kernel_rfl) Tryd.func4 (by kernel_rfl)
    (of_decide_eq_true (by kernel_rfl)) (by unfold Func.isWrapper; first | (rw [if_pos (by decide +kernel)]; kernel_rfl) | (rw [if_neg (by decide +kernel)]; exact ⟨rfl, rfl⟩))
    (fun os started H enc _ F => by rw [OpenClaim.pre_eq_preRow]; exact lifted os started H enc F)
theorem plain (f : FuncId) (fn : Func) (hf : Tryd.pinned.checked.prog.funcNamed "stowage/stowagelaw1.EncNumbers" = some f) (hfn : Tryd.pinned.checked.prog.funcs[f]? = some fn) :
    false = Tryd.pinned.checked.prog.looks [] ∧ ∀ (j : Nat) t, fn.params[j]? = some t → Tryd.pinned.checked.prog.wantsStandIn t = false := by
  obtain rfl : f = 4 := Option.some.inj ((show Tryd.prog.funcNamed "stowage/stowagelaw1.EncNumbers" = some 4 by kernel_rfl).symm.trans hf) |>.symm
  obtain rfl : fn = Tryd.f4 := (Option.some.inj (Tryd.func4.symm.trans hfn)).symm
  refine ⟨by kernel_rfl, fun j t ht => ?_⟩
  rw [Tryd.params4] at ht
  have hm := Array.mem_of_getElem? ht
  simp only [List.mem_toArray, List.mem_cons, List.not_mem_nil, or_false] at hm
  rcases hm with rfl | rfl
  · exact (show Tryd.prog.wantsStandIn 3 = false by kernel_rfl)
  · exact (show Tryd.prog.wantsStandIn 9 = false by kernel_rfl)
theorem proved : Rows.EncNumbersUptoCardSaid :=
  Claim7.holds_tied_plain_at .later [] _ _ _ _ saidUpto (fun _ h => by cases h) (by kernel_rfl) (fun _ h => by cases h) encNumbersUpto_row_tie rfl ⟨rfl, rfl⟩ (by kernel_rfl) rfl plain (by kernel_rfl)
end Go.Proofs.YtfkpdfpnpcdhaaaDoor.encNumbers
