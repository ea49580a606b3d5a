/- The law EncBack returns true and leaves its input as it was, its package-level variables laid as the program's text lays them. The condition: the bulk of what is handed in is at most 1048576. -/
import Derived.Test.YtfkpdfpnpcdhaaaDoorCards
import Derived.Test.YtfkpdfpnpcdhaaaDoorTie
import Derived.Deep.DeepHandedRow
import Derived.Lib.LaidTab
import Derived.Stop.LaidErr
import Derived.Test.YtfkpdfpnpcdhaaaDoorAm29
import Derived.Test.YtfkpdfpnpcdhaaaDoorShelf
set_option maxRecDepth 100000
set_option linter.unusedVariables false
set_option linter.unusedSimpArgs false
namespace Go.Proofs.YtfkpdfpnpcdhaaaDoor
open Go.Am
theorem one_le {H : Type} (d : DataW H) : 1 ≤ Rows.uptoBulk d := by
  cases d with
  | lit l => cases l <;> simp [Rows.uptoBulk]
  | _ => simp [Rows.uptoBulk]
theorem length_le {H : Type} (l : List (DataW H)) : l.length ≤ Rows.uptoBulkAll l := by
  induction l with
  | nil => simp [Rows.uptoBulkAll]
  | cons x r ih => have := one_le x; simp only [Rows.uptoBulkAll, List.length_cons]; omega

instance : Tab := ⟨fun b => if b = 0 then some ((Lib.pow10Tab.map fun z => Value.int .u64 z).toArray) else none⟩
theorem tab_is {G : Gh} {w : World} (h : WI G w) : Lib.TabIs Tryd.prog w "internal/strconv.uint64pow10" .u64 Lib.pow10Tab := by
  obtain ⟨⟨e, fz, h1⟩, _⟩ := h.tab 0 _ rfl
  unfold Lib.TabIs World.var?
  rw [show Tryd.prog.globalNamed "internal/strconv.uint64pow10" = some 0 by kernel_rfl]
  simp only [Option.bind_some, h1]
theorem itoa_ok (n : Int) (h0 : -9223372036854775808 ≤ n) (h1 : n ≤ 9223372036854775807) : FnOK Tryd.prog 24 [.int .i64 n] [] (.str (Lib.itoa n)) [] := by
  refine FnOK.of_below rfl fun w G vs hl ha hw => ?_
  obtain ⟨v, rfl⟩ : ∃ v, vs = [v] := by
    match vs, hl with
    | [v], _ => exact ⟨v, rfl⟩
  have hv := ha 0 _ v rfl rfl
  cases hv
  refine (Tryd.strconv_Itoa n h0 h1 w (tab_is hw)).mono ?_
  rintro e w' ⟨rfl, k, os, rfl⟩
  exact ⟨_, rfl, fun G w => .str .., ⟨rfl, rfl, rfl, by simp [Sort.grow], fun j hj => by show (w.heap ++ os)[j]? = _; rw [Array.getElem?_append_left hj]⟩⟩
def prEl (l : List Int) : Nat → AV := fun i => .agg [.int .i64 (l.getD i 0), .int .i64 (l.getD i 0)]
theorem pr_el : ∀ (l : List Int) (i : Nat), i < l.length → elOf true 2 (l.flatMap fun k => [AV.int .i64 k, AV.int .i64 k]) i = prEl l i
  | [], i, h => absurd h (Nat.not_lt_zero _)
  | a :: l, 0, _ => rfl
  | a :: l, i + 1, h => by
    have := pr_el l i (by simpa using h)
    unfold elOf prEl at this ⊢
    simp only [cond_true, AV.agg.injEq, List.flatMap_cons] at this ⊢
    rw [show (i + 1) * 2 = i * 2 + 2 by omega]
    simpa using this
theorem pr_app (l r : List Int) (i : Nat) : apEl l.length (prEl l) (prEl r) i = prEl (l ++ r) i := by
  rcases Nat.lt_or_ge i l.length with h | h
  · rw [apEl_lt h]; unfold prEl; simp [List.getD_eq_getElem?_getD, List.getElem?_append_left h]
  · rw [apEl_ge h]; unfold prEl; simp [List.getD_eq_getElem?_getD, List.getElem?_append_right h]
def errL : List Int := [0, 1, 2, 50, 60, 61, 62, 130, 300, 301, 302, 303, 304, 305, 306, 307, 308, 309, 310, 311, 312, 313, 314, 315, 316, 317, 318, 319, 320, 321, 322, 323, 324, 325, 326, 327, 328, 329, 330, 331, 332, 333, 334, 335, 336, 337, 338, 339, 340, 341]
def restL : List Int := [253402300799, 256, 4096, 2048, 65536, 65536, 16, 8192, 65536, 100, 1048576, 10, 2048, 100, 10000, 16, 16, 1, 2, 1, 2, 3, 1, 2, 3, 4, 5, 6, 7, 8, 9, 10, 11, 12, 13, 14, 15, 16, 17, 18, 19, 20, 21, 22, 23, 24, 25, 26, 27, 28]
theorem itoa130 : Lib.itoa 130 = [49, 51, 48] := by simp [Lib.itoa, Lib.decDigits]
theorem itoa0 : Lib.itoa 0 = [48] := by simp [Lib.itoa, Lib.decDigits]


def HX : List UInt8 := [48, 49, 50, 51, 52, 53, 54, 55, 56, 57, 97, 98, 99, 100, 101, 102]
def hxd (d : Nat) : UInt8 := HX.getD d 0
def hexL (b : List UInt8) : List UInt8 := b.flatMap fun c => [hxd (c.toNat / 16), hxd (c.toNat % 16)]
def hv (c : UInt8) : Option Nat := if 48 ≤ c.toNat ∧ c.toNat ≤ 57 then some (c.toNat - 48) else if 97 ≤ c.toNat ∧ c.toNat ≤ 102 then some (c.toNat - 87) else none
def unhexL : List UInt8 → Option (List UInt8)
  | [] => some []
  | [_] => none
  | a :: b :: r => match hv a, hv b, unhexL r with
    | some x, some y, some l => some (UInt8.ofNat (16 * x + y) :: l)
    | _, _, _ => none
def fnd : List UInt8 → UInt8 → Option Nat
  | [], _ => none
  | x :: r, c => if x = c then some 0 else (fnd r c).map (· + 1)
def fndI (s : List UInt8) (c : UInt8) : Int := match fnd s c with
  | some i => i
  | none => -1
theorem hexL_length (b : List UInt8) : (hexL b).length = 2 * b.length := by
  induction b with
  | nil => rfl
  | cons x xs ih => simp [hexL, List.flatMap_cons] at *; omega
theorem rdigit_eq (d : Nat) (h : d < 16) : (HX.take ((d : Int) + 1).toNat).drop (d : Int).toNat = [hxd d] := by
  have : ∀ d : Fin 16, (HX.take ((d.val : Int) + 1).toNat).drop (d.val : Int).toNat = [hxd d.val] := by decide
  exact this ⟨d, h⟩
theorem shr4 (x : Nat) : (x : Int).fdiv (2 ^ min (Int.toNat 4) IntKind.u8.bits) = ((x / 16 : Nat) : Int) := by
  show (x : Int).fdiv 16 = _
  rw [Int.fdiv_eq_ediv_of_nonneg _ (by decide)]; rfl
theorem and15 (c : UInt8) : bitsE .and .u8 (c.toNat : Int) 15 = ((c.toNat % 16 : Nat) : Int) := by
  have := (Go.Am.bits_nat .u8 (a := c.toNat) (b := 15) c.toNat_lt (by decide) rfl).1
  rw [show ((15 : Nat) : Int) = 15 from rfl] at this
  rw [this, show c.toNat &&& 15 = c.toNat % 16 from Nat.and_two_pow_sub_one_eq_mod c.toNat 4]
theorem u8b (c : UInt8) : (0 : Int) ≤ (c.toNat : Int) ∧ (c.toNat : Int) < 256 := by have := c.toNat_lt; omega
theorem toB_u8 (c : UInt8) : toB (c.toNat : Int) = c := by simp [toB]
theorem toB_ofNat (n : Nat) : toB (n : Int) = UInt8.ofNat n := by simp [toB]
theorem take_succ' {α : Type} (b : List α) (i : Nat) (d : α) (h : i < b.length) : b.take (i + 1) = b.take i ++ [b.getD i d] := by
  rw [List.take_add_one, List.getD_eq_getElem?_getD, List.getElem?_eq_getElem h]; rfl
theorem hex_step (b : List UInt8) (i : Nat) (h : i < b.length) : hexL (b.take i) ++ List.map toB [((HX.getD (((b.getD (i : Int).toNat 0).toNat / 16 : Nat) : Int).toNat 0).toNat : Int), ((HX.getD (((b.getD (i : Int).toNat 0).toNat % 16 : Nat) : Int).toNat 0).toNat : Int)] = hexL (b.take (i + 1)) := by
  rw [take_succ' b i 0 h]
  simp only [Int.toNat_natCast]
  simp [hexL, List.flatMap_append, toB_u8, hxd]
theorem rhex_step (b : List UInt8) (i : Nat) (h : i < b.length) : hexL (b.take i) ++ [hxd ((b.getD (i : Int).toNat 0).toNat / 16)] ++ [hxd ((b.getD (i : Int).toNat 0).toNat % 16)] = hexL (b.take (i + 1)) := by
  rw [take_succ' b i 0 h]
  simp only [Int.toNat_natCast]
  simp [hexL, List.flatMap_append]
theorem quo16 (c : UInt8) : IntKind.i64.wrap ((IntKind.i64.wrap (c.toNat : Int)).tdiv 16) = ((c.toNat / 16 : Nat) : Int) := by
  have := c.toNat_lt
  rw [i64_id (x := (c.toNat : Int)) (by omega) (by omega), show (16 : Int) = ((16 : Nat) : Int) from rfl, ← Int.ofNat_tdiv, i64_id (by omega) (by omega)]
theorem rem16 (c : UInt8) : (IntKind.i64.wrap (c.toNat : Int)).tmod 16 = ((c.toNat % 16 : Nat) : Int) := by
  have := c.toNat_lt
  rw [i64_id (x := (c.toNat : Int)) (by omega) (by omega)]; rfl
theorem hv_lt {c : UInt8} {x : Nat} (h : hv c = some x) : x < 16 := by
  unfold hv at h
  split at h
  · simp at h; omega
  · split at h
    · simp at h; omega
    · simp at h
theorem or4 {x y : Nat} (hx : x < 16) (hy : y < 16) : bitsE .or .u8 (IntKind.u8.wrap ((x : Int) * 2 ^ min (Int.toNat 4) IntKind.u8.bits)) (y : Int) = ((16 * x + y : Nat) : Int) := by
  have e : IntKind.u8.wrap ((x : Int) * 2 ^ min (Int.toNat 4) IntKind.u8.bits) = ((16 * x : Nat) : Int) := by
    show IntKind.u8.wrap ((x : Int) * 16) = _
    rw [wrap_u8]; omega
  rw [e, (Go.Am.bits_nat .u8 (a := 16 * x) (b := y) (show 16 * x < 256 by omega) (show y < 256 by omega) rfl).2.1]
  have := Nat.two_pow_add_eq_or_of_lt (i := 4) hy x
  rw [show (2 : Nat) ^ 4 = 16 from rfl] at this
  rw [this]
theorem drop2 (s : List UInt8) (i : Nat) (h : i + 1 < s.length) : s.drop i = s.getD i 0 :: s.getD (i + 1) 0 :: s.drop (i + 2) := by
  rw [List.drop_eq_getElem_cons (by omega : i < s.length), List.drop_eq_getElem_cons (by omega : i + 1 < s.length)]
  simp [List.getD_eq_getElem?_getD, List.getElem?_eq_getElem h, List.getElem?_eq_getElem (by omega : i < s.length)]
/-- so far -/
structure UnI (s : List UInt8) (i : Nat) (out : List UInt8) : Prop where
  le : i ≤ s.length
  ev : i % 2 = 0
  evs : s.length % 2 = 0
  len : out.length = i / 2
  eq : unhexL s = (unhexL (s.drop i)).map (out ++ ·)
theorem UnI.none1 {s i out} (h : UnI s i out) (hi : i < s.length) (e : hv (s.getD i 0) = none) : unhexL s = none := by
  have := h.ev; have := h.evs
  rw [h.eq, drop2 s i (by omega), unhexL, e]; rfl
theorem UnI.none2 {s i out} (h : UnI s i out) (hi : i < s.length) (e : hv (s.getD (i + 1) 0) = none) : unhexL s = none := by
  have := h.ev; have := h.evs
  rw [h.eq, drop2 s i (by omega), unhexL, e]
  cases hv (s.getD i 0) <;> rfl
theorem UnI.step {s i out x y} (h : UnI s i out) (hi : i < s.length) (e1 : hv (s.getD i 0) = some x) (e2 : hv (s.getD (i + 1) 0) = some y) : UnI s (i + 2) (out ++ [UInt8.ofNat (16 * x + y)]) := by
  have h1 := h.ev; have h2 := h.evs; have h3 := h.len
  refine ⟨by omega, by omega, h2, by simp; omega, ?_⟩
  rw [h.eq, drop2 s i (by omega), unhexL, e1, e2]
  cases unhexL (s.drop (i + 2)) <;> simp
theorem UnI.done {s i out} (h : UnI s i out) (hi : s.length ≤ i) : unhexL s = some out := by
  rw [h.eq, List.drop_eq_nil_of_le hi, unhexL]; simp
theorem UnI.start {s : List UInt8} (h : s.length % 2 = 0) : UnI s 0 [] := ⟨by omega, rfl, h, rfl, by simp⟩
theorem unhex_odd : ∀ {s : List UInt8}, s.length % 2 = 1 → unhexL s = none
  | [], h => by simp at h
  | [_], h => rfl
  | a :: b :: r, h => by
    rw [unhexL, unhex_odd (s := r) (by simp at h; omega)]
    cases hv a <;> cases hv b <;> rfl
theorem fnd_hv (c : UInt8) : fnd HX c = hv c := by
  have : ∀ n : Fin 256, fnd HX (UInt8.ofNat n.val) = hv (UInt8.ofNat n.val) := by decide
  have h := this ⟨c.toNat, c.toNat_lt⟩
  simpa using h
structure FdI (s : List UInt8) (c : UInt8) (i : Nat) : Prop where
  le : i ≤ s.length
  eq : fnd s c = (fnd (s.drop i) c).map (· + i)
theorem FdI.hit {s c i} (h : FdI s c i) (hi : i < s.length) (e : s.getD i 0 = c) : fndI s c = i := by
  unfold fndI
  rw [h.eq, List.drop_eq_getElem_cons hi, fnd]
  rw [List.getD_eq_getElem?_getD, List.getElem?_eq_getElem hi] at e
  simp at e
  simp [e]
theorem FdI.step {s c i} (h : FdI s c i) (hi : i < s.length) (e : s.getD i 0 ≠ c) : FdI s c (i + 1) := by
  refine ⟨by omega, ?_⟩
  rw [h.eq, List.drop_eq_getElem_cons hi, fnd]
  rw [List.getD_eq_getElem?_getD, List.getElem?_eq_getElem hi] at e
  simp at e
  rw [if_neg e, Option.map_map]
  congr 1; funext x; simp; omega
theorem FdI.done {s c i} (h : FdI s c i) (hi : s.length ≤ i) : fndI s c = -1 := by
  unfold fndI
  rw [h.eq, List.drop_eq_nil_of_le hi]; rfl
theorem fndI_hv (c : UInt8) : fndI HX c = match hv c with | some x => (x : Int) | none => -1 := by unfold fndI; rw [fnd_hv]
theorem fnd_some {c : UInt8} (h : 0 ≤ fndI HX c) : ∃ x, hv c = some x := by
  rw [fndI_hv] at h
  cases e : hv c with
  | none => rw [e] at h; simp at h
  | some x => exact ⟨x, rfl⟩
theorem fnd_none {c : UInt8} (h : fndI HX c < 0) : hv c = none := by
  rw [fndI_hv] at h
  cases e : hv c with
  | none => rfl
  | some x => rw [e] at h; simp only at h; omega
theorem i1 (i : Nat) (h : i ≤ 16777216) : (IntKind.i64.wrap ((i : Int) + 1)).toNat = i + 1 := by rw [i64_id (by omega) (by omega)]; omega
theorem u16xy {x y : Nat} (hx : x < 16) (hy : y < 16) : IntKind.u8.wrap (IntKind.i64.wrap (IntKind.i64.wrap (16 * (x : Int)) + (y : Int))) = ((16 * x + y : Nat) : Int) := by
  rw [i64_id (x := 16 * (x : Int)) (by omega) (by omega), i64_id (by omega) (by omega), u8_id (by omega) (by omega)]; omega

theorem rdigit_ok (d : Nat) (h : d < 16) : FnOK Tryd.prog 25 [.int .i64 d] [] (.str [hxd d]) [] := by
  refine FnOK.of_runs Tryd.func25 rfl (Nat.le_of_ble_eq_true rfl) ?_
  refine Runs.seq ?_
  refine Runs.reg [] [] rfl (by (try simp only [wrap_i64', wrap_u8, wrap_u16, wrap_u32, wrap_u64, wrap_i32, List.length_cons, List.length_nil, List.length_append, List.length_map, tmodN, tdivN]); and_intros <;> first | exact True.intro | omega | skip) ?_
  refine Runs.seq ?_
  refine Runs.reg [] [0, 1] rfl (by (try simp only [wrap_i64', wrap_u8, wrap_u16, wrap_u32, wrap_u64, wrap_i32, List.length_cons, List.length_nil, List.length_append, List.length_map, tmodN, tdivN]); and_intros <;> first | exact True.intro | omega | skip) ?_
  exact Runs.retH Tryd.func25 rfl rfl (by rw [i64_id (by omega) (by omega)]; exact congrArg AV.str (rdigit_eq d h)) (by rfl)

theorem hex_ok (b : List UInt8) (o : Bool) (hb : b.length ≤ 16777216) : FnOK Tryd.prog 15 [.bs b o] [] (.str (hexL b)) [] := by
  refine FnOK.of_runs Tryd.func15 rfl (Nat.le_of_ble_eq_true rfl) ?_
  refine Runs.seq ?_
  refine Runs.reg [] [] rfl (by (try simp only [wrap_i64', wrap_u8, wrap_u16, wrap_u32, wrap_u64, wrap_i32, List.length_cons, List.length_nil, List.length_append, List.length_map, tmodN, tdivN]); and_intros <;> first | exact True.intro | omega | skip) ?_
  refine Runs.seq ?_
  refine Runs.reg [] [0] rfl (by (try simp only [wrap_i64', wrap_u8, wrap_u16, wrap_u32, wrap_u64, wrap_i32, List.length_cons, List.length_nil, List.length_append, List.length_map, tmodN, tdivN]); and_intros <;> first | exact True.intro | omega | skip) ?_
  refine Runs.seq ?_
  refine Runs.seq ?_
  refine Runs.reg [] [0] rfl (by (try simp only [wrap_i64', wrap_u8, wrap_u16, wrap_u32, wrap_u64, wrap_i32, List.length_cons, List.length_nil, List.length_append, List.length_map, tmodN, tdivN]); and_intros <;> first | exact True.intro | omega | skip) ?_
  refine Runs.block ?_
  -- loop 0
  refine Runs.loopF (σ := Nat) (fun i => i ≤ b.length) (fun i => [(3, .bs (hexL (b.take i)) true), (10, .bs b false), (11, .int .i64 b.length), (12, .int .i64 i)]) (fun _ => []) (fun i => b.length - i) (0) (by exact Nat.zero_le _) (by exact agree_cons rfl (by first | with_reducible rfl | (refine congrArg (AV.int _) ?_; (try simp only [wrap_i64', wrap_u8, wrap_u16, wrap_u32, wrap_u64, wrap_i32, List.length_cons, List.length_nil, List.length_append, List.length_map, tmodN, tdivN]); omega) | rfl | skip) (agree_cons rfl (by first | with_reducible rfl | (refine congrArg (AV.int _) ?_; (try simp only [wrap_i64', wrap_u8, wrap_u16, wrap_u32, wrap_u64, wrap_i32, List.length_cons, List.length_nil, List.length_append, List.length_map, tmodN, tdivN]); omega) | rfl | skip) (agree_cons rfl (by first | with_reducible rfl | (refine congrArg (AV.int _) ?_; (try simp only [wrap_i64', wrap_u8, wrap_u16, wrap_u32, wrap_u64, wrap_i32, List.length_cons, List.length_nil, List.length_append, List.length_map, tmodN, tdivN]); omega) | rfl | skip) (agree_cons rfl (by first | with_reducible rfl | (refine congrArg (AV.int _) ?_; (try simp only [wrap_i64', wrap_u8, wrap_u16, wrap_u32, wrap_u64, wrap_i32, List.length_cons, List.length_nil, List.length_append, List.length_map, tmodN, tdivN]); omega) | rfl | skip) (trivial))))) (by rfl) (fun i hi ih => ?_)
  refine Runs.seq ?_
  refine Runs.reg [] [] rfl (by (try simp only [wrap_i64', wrap_u8, wrap_u16, wrap_u32, wrap_u64, wrap_i32, List.length_cons, List.length_nil, List.length_append, List.length_map, tmodN, tdivN]); and_intros <;> first | exact True.intro | omega | skip) ?_
  refine Runs.seq ?_
  refine Runs.condS rfl (fun g13 => ?_) (fun g13 => ?_)
  · try simp only [decide_eq_true_eq, decide_eq_false_iff_not, notT, notF, beq_iff_eq, beq_eq_false_iff_ne, bne_iff_ne, bne_eq_false_iff_eq, tmodN, tdivN, Int.not_lt, Int.not_le] at g13
    refine Runs.skip ?_
    refine Runs.seq ?_
    refine Runs.block ?_
    refine Runs.seq ?_
    refine Runs.reg [] [] rfl (by (try simp only [wrap_i64', wrap_u8, wrap_u16, wrap_u32, wrap_u64, wrap_i32, List.length_cons, List.length_nil, List.length_append, List.length_map, tmodN, tdivN]); and_intros <;> first | exact True.intro | omega | skip) ?_
    refine Runs.regD [] [1, 4] rfl rfl rfl (by rw [shr4, and15]; have := u8lt (b.getD (i : Int).toNat 0); have hl := hexL_length (b.take i); rw [List.length_take] at hl; simp only [List.length_cons, List.length_nil, List.length_map]; and_intros <;> first | exact True.intro | omega | (intro x hx; simp only [List.mem_cons, List.not_mem_nil, or_false] at hx; rcases hx with rfl | rfl <;> exact u8b _)) ?_
    refine Runs.inBlock ?_
    refine Runs.reg [] [] rfl (by (try simp only [wrap_i64', wrap_u8, wrap_u16, wrap_u32, wrap_u64, wrap_i32, List.length_cons, List.length_nil, List.length_append, List.length_map, tmodN, tdivN]); and_intros <;> first | exact True.intro | omega | skip) ?_
    exact ih (i + 1) _ _ (by first | exact True.intro | omega) (by omega) (by exact agree_cons rfl (by rw [shr4, and15]; exact congrArg (AV.bs · true) (hex_step b i (by omega))) (agree_cons rfl (by first | with_reducible rfl | (refine congrArg (AV.int _) ?_; (try simp only [wrap_i64', wrap_u8, wrap_u16, wrap_u32, wrap_u64, wrap_i32, List.length_cons, List.length_nil, List.length_append, List.length_map, tmodN, tdivN]); omega) | rfl | skip) (agree_cons rfl (by first | with_reducible rfl | (refine congrArg (AV.int _) ?_; (try simp only [wrap_i64', wrap_u8, wrap_u16, wrap_u32, wrap_u64, wrap_i32, List.length_cons, List.length_nil, List.length_append, List.length_map, tmodN, tdivN]); omega) | rfl | skip) (agree_cons rfl (by first | with_reducible rfl | (refine congrArg (AV.int _) ?_; (try simp only [wrap_i64', wrap_u8, wrap_u16, wrap_u32, wrap_u64, wrap_i32, List.length_cons, List.length_nil, List.length_append, List.length_map, tmodN, tdivN]); omega) | rfl | skip) (trivial))))) (by rfl)
  · try simp only [decide_eq_true_eq, decide_eq_false_iff_not, notT, notF, beq_iff_eq, beq_eq_false_iff_ne, bne_iff_ne, bne_eq_false_iff_eq, tmodN, tdivN, Int.not_lt, Int.not_le] at g13
    refine Runs.exit rfl ?_
    refine Runs.seq ?_
    refine Runs.reg [] [0] rfl (by (try simp only [wrap_i64', wrap_u8, wrap_u16, wrap_u32, wrap_u64, wrap_i32, List.length_cons, List.length_nil, List.length_append, List.length_map, tmodN, tdivN]); and_intros <;> first | exact True.intro | omega | skip) ?_
    exact Runs.retH Tryd.func15 rfl rfl (by rw [List.take_of_length_le (by omega)]) (by rfl)

theorem digit_ok (c : UInt8) : FnOK Tryd.prog 26 [.int .u8 c.toNat] [] (.tup [.int .u8 ((hv c).getD 0 : Nat), .bool (hv c).isSome]) [] := by
  refine FnOK.of_runs Tryd.func26 rfl (Nat.le_of_ble_eq_true rfl) ?_
  refine Runs.seq ?_
  refine Runs.reg [] [] rfl (by (try simp only [wrap_i64', wrap_u8, wrap_u16, wrap_u32, wrap_u64, wrap_i32, List.length_cons, List.length_nil, List.length_append, List.length_map, tmodN, tdivN]); and_intros <;> first | exact True.intro | omega | skip) ?_
  refine Runs.seq ?_
  refine Runs.block ?_
  refine Runs.seq ?_
  refine Runs.region ?_
  refine Runs.restTo 3 [] [0, 3] rfl (by (try simp only [wrap_i64', wrap_u8, wrap_u16, wrap_u32, wrap_u64, wrap_i32, List.length_cons, List.length_nil, List.length_append, List.length_map, tmodN, tdivN]); and_intros <;> first | exact True.intro | omega | skip) ?_
  refine Runs.splitS 7 rfl (fun g7 => ?_) (fun g7 => ?_)
  · try simp only [decide_eq_true_eq, decide_eq_false_iff_not, notT, notF, beq_iff_eq, beq_eq_false_iff_ne, bne_iff_ne, bne_eq_false_iff_eq, tmodN, tdivN, Int.not_lt, Int.not_le] at g7
    refine Runs.rest [] [0, 3] rfl (by (try simp only [wrap_i64', wrap_u8, wrap_u16, wrap_u32, wrap_u64, wrap_i32, List.length_cons, List.length_nil, List.length_append, List.length_map, tmodN, tdivN]); and_intros <;> first | exact True.intro | omega | skip) ?_
    refine Runs.condS rfl (fun g4 => ?_) (fun g4 => ?_)
    · try simp only [decide_eq_true_eq, decide_eq_false_iff_not, notT, notF, beq_iff_eq, beq_eq_false_iff_ne, bne_iff_ne, bne_eq_false_iff_eq, tmodN, tdivN, Int.not_lt, Int.not_le] at g4
      refine Runs.seq ?_
      refine Runs.reg [] [0] rfl (by (try simp only [wrap_i64', wrap_u8, wrap_u16, wrap_u32, wrap_u64, wrap_i32, List.length_cons, List.length_nil, List.length_append, List.length_map, tmodN, tdivN]); and_intros <;> first | exact True.intro | omega | skip) ?_
      exact Runs.retH Tryd.func26 rfl rfl (by have := u8lt c; simp only [hv]; (try simp only [wrap_u8]); (repeat' split) <;> first | (exfalso; omega) | (simp <;> omega)) (by rfl)
    · try simp only [decide_eq_true_eq, decide_eq_false_iff_not, notT, notF, beq_iff_eq, beq_eq_false_iff_ne, bne_iff_ne, bne_eq_false_iff_eq, tmodN, tdivN, Int.not_lt, Int.not_le] at g4
      refine Runs.seq ?_
      refine Runs.region ?_
      refine Runs.restTo 3 [] [0, 3] rfl (by (try simp only [wrap_i64', wrap_u8, wrap_u16, wrap_u32, wrap_u64, wrap_i32, List.length_cons, List.length_nil, List.length_append, List.length_map, tmodN, tdivN]); and_intros <;> first | exact True.intro | omega | skip) ?_
      refine Runs.splitS 16 rfl (fun g16 => ?_) (fun g16 => ?_)
      · try simp only [decide_eq_true_eq, decide_eq_false_iff_not, notT, notF, beq_iff_eq, beq_eq_false_iff_ne, bne_iff_ne, bne_eq_false_iff_eq, tmodN, tdivN, Int.not_lt, Int.not_le] at g16
        refine Runs.rest [] [0, 3] rfl (by (try simp only [wrap_i64', wrap_u8, wrap_u16, wrap_u32, wrap_u64, wrap_i32, List.length_cons, List.length_nil, List.length_append, List.length_map, tmodN, tdivN]); and_intros <;> first | exact True.intro | omega | skip) ?_
        refine Runs.condS rfl (fun g13 => ?_) (fun g13 => ?_)
        · try simp only [decide_eq_true_eq, decide_eq_false_iff_not, notT, notF, beq_iff_eq, beq_eq_false_iff_ne, bne_iff_ne, bne_eq_false_iff_eq, tmodN, tdivN, Int.not_lt, Int.not_le] at g13
          refine Runs.seq ?_
          refine Runs.reg [] [0] rfl (by (try simp only [wrap_i64', wrap_u8, wrap_u16, wrap_u32, wrap_u64, wrap_i32, List.length_cons, List.length_nil, List.length_append, List.length_map, tmodN, tdivN]); and_intros <;> first | exact True.intro | omega | skip) ?_
          exact Runs.retH Tryd.func26 rfl rfl (by have := u8lt c; simp only [hv]; (try simp only [wrap_u8]); (repeat' split) <;> first | (exfalso; omega) | (simp <;> omega)) (by rfl)
        · try simp only [decide_eq_true_eq, decide_eq_false_iff_not, notT, notF, beq_iff_eq, beq_eq_false_iff_ne, bne_iff_ne, bne_eq_false_iff_eq, tmodN, tdivN, Int.not_lt, Int.not_le] at g13
          refine Runs.skip ?_
          refine Runs.inBlock ?_
          refine Runs.seq ?_
          refine Runs.reg [] [] rfl (by (try simp only [wrap_i64', wrap_u8, wrap_u16, wrap_u32, wrap_u64, wrap_i32, List.length_cons, List.length_nil, List.length_append, List.length_map, tmodN, tdivN]); and_intros <;> first | exact True.intro | omega | skip) ?_
          exact Runs.retH Tryd.func26 rfl rfl (by have := u8lt c; simp only [hv]; (try simp only [wrap_u8]); (repeat' split) <;> first | (exfalso; omega) | (simp <;> omega)) (by rfl)
      · try simp only [decide_eq_true_eq, decide_eq_false_iff_not, notT, notF, beq_iff_eq, beq_eq_false_iff_ne, bne_iff_ne, bne_eq_false_iff_eq, tmodN, tdivN, Int.not_lt, Int.not_le] at g16
        refine Runs.rest [] [0, 3] rfl (by (try simp only [wrap_i64', wrap_u8, wrap_u16, wrap_u32, wrap_u64, wrap_i32, List.length_cons, List.length_nil, List.length_append, List.length_map, tmodN, tdivN]); and_intros <;> first | exact True.intro | omega | skip) ?_
        refine Runs.condF rfl ?_
        refine Runs.skip ?_
        refine Runs.inBlock ?_
        refine Runs.seq ?_
        refine Runs.reg [] [] rfl (by (try simp only [wrap_i64', wrap_u8, wrap_u16, wrap_u32, wrap_u64, wrap_i32, List.length_cons, List.length_nil, List.length_append, List.length_map, tmodN, tdivN]); and_intros <;> first | exact True.intro | omega | skip) ?_
        exact Runs.retH Tryd.func26 rfl rfl (by have := u8lt c; simp only [hv]; (try simp only [wrap_u8]); (repeat' split) <;> first | (exfalso; omega) | (simp <;> omega)) (by rfl)
  · try simp only [decide_eq_true_eq, decide_eq_false_iff_not, notT, notF, beq_iff_eq, beq_eq_false_iff_ne, bne_iff_ne, bne_eq_false_iff_eq, tmodN, tdivN, Int.not_lt, Int.not_le] at g7
    refine Runs.rest [] [0, 3] rfl (by (try simp only [wrap_i64', wrap_u8, wrap_u16, wrap_u32, wrap_u64, wrap_i32, List.length_cons, List.length_nil, List.length_append, List.length_map, tmodN, tdivN]); and_intros <;> first | exact True.intro | omega | skip) ?_
    refine Runs.condF rfl ?_
    refine Runs.seq ?_
    refine Runs.region ?_
    refine Runs.restTo 3 [] [0, 3] rfl (by (try simp only [wrap_i64', wrap_u8, wrap_u16, wrap_u32, wrap_u64, wrap_i32, List.length_cons, List.length_nil, List.length_append, List.length_map, tmodN, tdivN]); and_intros <;> first | exact True.intro | omega | skip) ?_
    refine Runs.splitS 16 rfl (fun g16 => ?_) (fun g16 => ?_)
    · try simp only [decide_eq_true_eq, decide_eq_false_iff_not, notT, notF, beq_iff_eq, beq_eq_false_iff_ne, bne_iff_ne, bne_eq_false_iff_eq, tmodN, tdivN, Int.not_lt, Int.not_le] at g16
      refine Runs.rest [] [0, 3] rfl (by (try simp only [wrap_i64', wrap_u8, wrap_u16, wrap_u32, wrap_u64, wrap_i32, List.length_cons, List.length_nil, List.length_append, List.length_map, tmodN, tdivN]); and_intros <;> first | exact True.intro | omega | skip) ?_
      refine Runs.condS rfl (fun g13 => ?_) (fun g13 => ?_)
      · try simp only [decide_eq_true_eq, decide_eq_false_iff_not, notT, notF, beq_iff_eq, beq_eq_false_iff_ne, bne_iff_ne, bne_eq_false_iff_eq, tmodN, tdivN, Int.not_lt, Int.not_le] at g13
        refine Runs.seq ?_
        refine Runs.reg [] [0] rfl (by (try simp only [wrap_i64', wrap_u8, wrap_u16, wrap_u32, wrap_u64, wrap_i32, List.length_cons, List.length_nil, List.length_append, List.length_map, tmodN, tdivN]); and_intros <;> first | exact True.intro | omega | skip) ?_
        exact Runs.retH Tryd.func26 rfl rfl (by have := u8lt c; simp only [hv]; (try simp only [wrap_u8]); (repeat' split) <;> first | (exfalso; omega) | (simp <;> omega)) (by rfl)
      · try simp only [decide_eq_true_eq, decide_eq_false_iff_not, notT, notF, beq_iff_eq, beq_eq_false_iff_ne, bne_iff_ne, bne_eq_false_iff_eq, tmodN, tdivN, Int.not_lt, Int.not_le] at g13
        refine Runs.skip ?_
        refine Runs.inBlock ?_
        refine Runs.seq ?_
        refine Runs.reg [] [] rfl (by (try simp only [wrap_i64', wrap_u8, wrap_u16, wrap_u32, wrap_u64, wrap_i32, List.length_cons, List.length_nil, List.length_append, List.length_map, tmodN, tdivN]); and_intros <;> first | exact True.intro | omega | skip) ?_
        exact Runs.retH Tryd.func26 rfl rfl (by have := u8lt c; simp only [hv]; (try simp only [wrap_u8]); (repeat' split) <;> first | (exfalso; omega) | (simp <;> omega)) (by rfl)
    · try simp only [decide_eq_true_eq, decide_eq_false_iff_not, notT, notF, beq_iff_eq, beq_eq_false_iff_ne, bne_iff_ne, bne_eq_false_iff_eq, tmodN, tdivN, Int.not_lt, Int.not_le] at g16
      refine Runs.rest [] [0, 3] rfl (by (try simp only [wrap_i64', wrap_u8, wrap_u16, wrap_u32, wrap_u64, wrap_i32, List.length_cons, List.length_nil, List.length_append, List.length_map, tmodN, tdivN]); and_intros <;> first | exact True.intro | omega | skip) ?_
      refine Runs.condF rfl ?_
      refine Runs.skip ?_
      refine Runs.inBlock ?_
      refine Runs.seq ?_
      refine Runs.reg [] [] rfl (by (try simp only [wrap_i64', wrap_u8, wrap_u16, wrap_u32, wrap_u64, wrap_i32, List.length_cons, List.length_nil, List.length_append, List.length_map, tmodN, tdivN]); and_intros <;> first | exact True.intro | omega | skip) ?_
      exact Runs.retH Tryd.func26 rfl rfl (by have := u8lt c; simp only [hv]; (try simp only [wrap_u8]); (repeat' split) <;> first | (exfalso; omega) | (simp <;> omega)) (by rfl)

theorem unhex_ok (s : List UInt8) (hs : s.length ≤ 16777216) : FnOK Tryd.prog 14 [.str s] [] (.tup [.bs ((unhexL s).getD []) false, .bool (unhexL s).isSome]) [] := by
  refine FnOK.of_runs Tryd.func14 rfl (Nat.le_of_ble_eq_true rfl) ?_
  refine Runs.seq ?_
  refine Runs.reg [] [] rfl (by (try simp only [wrap_i64', wrap_u8, wrap_u16, wrap_u32, wrap_u64, wrap_i32, List.length_cons, List.length_nil, List.length_append, List.length_map, tmodN, tdivN]); and_intros <;> first | exact True.intro | omega | skip) ?_
  refine Runs.seq ?_
  refine Runs.seq ?_
  refine Runs.reg [] [0] rfl (by and_intros <;> first | exact True.intro | omega) ?_
  refine Runs.condS rfl (fun g13 => ?_) (fun g13 => ?_)
  · try simp only [decide_eq_true_eq, decide_eq_false_iff_not, notT, notF, beq_iff_eq, beq_eq_false_iff_ne, bne_iff_ne, bne_eq_false_iff_eq, tmodN, tdivN, Int.not_lt, Int.not_le] at g13
    refine Runs.seq ?_
    refine Runs.reg [] [] rfl (by (try simp only [wrap_i64', wrap_u8, wrap_u16, wrap_u32, wrap_u64, wrap_i32, List.length_cons, List.length_nil, List.length_append, List.length_map, tmodN, tdivN]); and_intros <;> first | exact True.intro | omega | skip) ?_
    exact Runs.retH Tryd.func14 rfl rfl (by rw [unhex_odd (by omega)]; rfl) (by rfl)
  · try simp only [decide_eq_true_eq, decide_eq_false_iff_not, notT, notF, beq_iff_eq, beq_eq_false_iff_ne, bne_iff_ne, bne_eq_false_iff_eq, tmodN, tdivN, Int.not_lt, Int.not_le] at g13
    refine Runs.skip ?_
    refine Runs.seq ?_
    refine Runs.reg [] [0] rfl (by (try simp only [wrap_i64', wrap_u8, wrap_u16, wrap_u32, wrap_u64, wrap_i32, List.length_cons, List.length_nil, List.length_append, List.length_map, tmodN, tdivN]); and_intros <;> first | exact True.intro | omega | skip) ?_
    refine Runs.seq ?_
    refine Runs.seq ?_
    refine Runs.reg [] [] rfl (by (try simp only [wrap_i64', wrap_u8, wrap_u16, wrap_u32, wrap_u64, wrap_i32, List.length_cons, List.length_nil, List.length_append, List.length_map, tmodN, tdivN]); and_intros <;> first | exact True.intro | omega | skip) ?_
    refine Runs.block ?_
    -- loop 0
    refine Runs.loopF (σ := Nat × List UInt8) (fun p => UnI s p.1 p.2) (fun p => [(0, .str s), (4, .bs p.2 true), (5, .int .i64 p.1)]) (fun _ => []) (fun p => s.length + 1 - p.1) ((0, [])) (by exact UnI.start (by omega)) (by exact agree_cons rfl (by first | with_reducible rfl | (refine congrArg (AV.int _) ?_; (try simp only [wrap_i64', wrap_u8, wrap_u16, wrap_u32, wrap_u64, wrap_i32, List.length_cons, List.length_nil, List.length_append, List.length_map, tmodN, tdivN]); omega) | rfl | skip) (agree_cons rfl (by first | with_reducible rfl | (refine congrArg (AV.int _) ?_; (try simp only [wrap_i64', wrap_u8, wrap_u16, wrap_u32, wrap_u64, wrap_i32, List.length_cons, List.length_nil, List.length_append, List.length_map, tmodN, tdivN]); omega) | rfl | skip) (agree_cons rfl (by first | with_reducible rfl | (refine congrArg (AV.int _) ?_; (try simp only [wrap_i64', wrap_u8, wrap_u16, wrap_u32, wrap_u64, wrap_i32, List.length_cons, List.length_nil, List.length_append, List.length_map, tmodN, tdivN]); omega) | rfl | skip) (trivial)))) (by rfl) (fun ⟨i, out⟩ hi ih => ?_)
    have hi : UnI s i out := hi; have hle := hi.le; have hev := hi.ev; have hevs := hi.evs; have hlen := hi.len
    refine Runs.seq ?_
    refine Runs.seq ?_
    refine Runs.reg [] [0, 1] rfl (by (try simp only [wrap_i64', wrap_u8, wrap_u16, wrap_u32, wrap_u64, wrap_i32, List.length_cons, List.length_nil, List.length_append, List.length_map, tmodN, tdivN]); and_intros <;> first | exact True.intro | omega | skip) ?_
    refine Runs.condS rfl (fun g21 => ?_) (fun g21 => ?_)
    · try simp only [decide_eq_true_eq, decide_eq_false_iff_not, notT, notF, beq_iff_eq, beq_eq_false_iff_ne, bne_iff_ne, bne_eq_false_iff_eq, tmodN, tdivN, Int.not_lt, Int.not_le] at g21
      refine Runs.skip ?_
      refine Runs.seq ?_
      refine Runs.block ?_
      refine Runs.seq ?_
      refine Runs.reg [(3, { res := .tup [.int .u8 ((hv (s.getD (i : Int).toNat 0)).getD 0 : Nat), .bool (hv (s.getD (i : Int).toNat 0)).isSome] })] [0, 1] rfl (by and_intros <;> first | exact True.intro | omega | exact digit_ok _) ?_
      refine Runs.seq ?_
      refine Runs.reg [(4, { res := .tup [.int .u8 ((hv (s.getD (IntKind.i64.wrap ((i : Int) + 1)).toNat 0)).getD 0 : Nat), .bool (hv (s.getD (IntKind.i64.wrap ((i : Int) + 1)).toNat 0)).isSome] })] [0, 1] rfl (by rw [i64_id (by omega) (by omega)]; and_intros <;> first | exact True.intro | omega | exact digit_ok _) ?_
      refine Runs.seq ?_
      refine Runs.seq ?_
      refine Runs.region ?_
      refine Runs.restTo 3 [] [0, 3] rfl (by (try simp only [wrap_i64', wrap_u8, wrap_u16, wrap_u32, wrap_u64, wrap_i32, List.length_cons, List.length_nil, List.length_append, List.length_map, tmodN, tdivN]); and_intros <;> first | exact True.intro | omega | skip) ?_
      refine Runs.splitS 41 rfl (fun g41 => ?_) (fun g41 => ?_)
      · try simp only [decide_eq_true_eq, decide_eq_false_iff_not, notT, notF, beq_iff_eq, beq_eq_false_iff_ne, bne_iff_ne, bne_eq_false_iff_eq, tmodN, tdivN, Int.not_lt, Int.not_le] at g41
        refine Runs.rest [] [0, 3] rfl (by (try simp only [wrap_i64', wrap_u8, wrap_u16, wrap_u32, wrap_u64, wrap_i32, List.length_cons, List.length_nil, List.length_append, List.length_map, tmodN, tdivN]); and_intros <;> first | exact True.intro | omega | skip) ?_
        refine Runs.condT rfl ?_
        refine Runs.seq ?_
        refine Runs.reg [] [] rfl (by (try simp only [wrap_i64', wrap_u8, wrap_u16, wrap_u32, wrap_u64, wrap_i32, List.length_cons, List.length_nil, List.length_append, List.length_map, tmodN, tdivN]); and_intros <;> first | exact True.intro | omega | skip) ?_
        exact Runs.retH Tryd.func14 rfl rfl (by rw [hi.none1 (by omega) (Option.isSome_eq_false_iff.1 g41 |> Option.isNone_iff_eq_none.1)]; rfl) (by rfl)
      · try simp only [decide_eq_true_eq, decide_eq_false_iff_not, notT, notF, beq_iff_eq, beq_eq_false_iff_ne, bne_iff_ne, bne_eq_false_iff_eq, tmodN, tdivN, Int.not_lt, Int.not_le] at g41
        refine Runs.rest [] [0, 3] rfl (by (try simp only [wrap_i64', wrap_u8, wrap_u16, wrap_u32, wrap_u64, wrap_i32, List.length_cons, List.length_nil, List.length_append, List.length_map, tmodN, tdivN]); and_intros <;> first | exact True.intro | omega | skip) ?_
        refine Runs.condS rfl (fun g44 => ?_) (fun g44 => ?_)
        · try simp only [decide_eq_true_eq, decide_eq_false_iff_not, notT, notF, beq_iff_eq, beq_eq_false_iff_ne, bne_iff_ne, bne_eq_false_iff_eq, tmodN, tdivN, Int.not_lt, Int.not_le] at g44
          refine Runs.seq ?_
          refine Runs.reg [] [] rfl (by (try simp only [wrap_i64', wrap_u8, wrap_u16, wrap_u32, wrap_u64, wrap_i32, List.length_cons, List.length_nil, List.length_append, List.length_map, tmodN, tdivN]); and_intros <;> first | exact True.intro | omega | skip) ?_
          exact Runs.retH Tryd.func14 rfl rfl (by rw [i1 i (by omega)] at g44; rw [hi.none2 (by omega) (Option.isSome_eq_false_iff.1 g44 |> Option.isNone_iff_eq_none.1)]; rfl) (by rfl)
        · try simp only [decide_eq_true_eq, decide_eq_false_iff_not, notT, notF, beq_iff_eq, beq_eq_false_iff_ne, bne_iff_ne, bne_eq_false_iff_eq, tmodN, tdivN, Int.not_lt, Int.not_le] at g44
          refine Runs.skip ?_
          obtain ⟨x, hx⟩ := Option.isSome_iff_exists.1 g41
          rw [i1 i (by omega)] at g44
          obtain ⟨y, hy⟩ := Option.isSome_iff_exists.1 g44
          refine Runs.reg [] [] rfl (by rw [hx, i1 i (by omega), hy, Option.getD_some, Option.getD_some, or4 (hv_lt hx) (hv_lt hy)]; have := hv_lt hx; have := hv_lt hy; simp only [List.length_cons, List.length_nil, List.length_map]; and_intros <;> first | exact True.intro | omega | (intro z hz; simp only [List.mem_cons, List.not_mem_nil, or_false] at hz; omega)) ?_
          refine Runs.inBlock ?_
          refine Runs.reg [] [] rfl (by (try simp only [wrap_i64', wrap_u8, wrap_u16, wrap_u32, wrap_u64, wrap_i32, List.length_cons, List.length_nil, List.length_append, List.length_map, tmodN, tdivN]); and_intros <;> first | exact True.intro | omega | skip) ?_
          exact ih (i + 2, out ++ [UInt8.ofNat (16 * x + y)]) _ _ (by exact hi.step (by omega) hx hy) (by simp only; omega) (by exact agree_cons rfl (by first | with_reducible rfl | (refine congrArg (AV.int _) ?_; (try simp only [wrap_i64', wrap_u8, wrap_u16, wrap_u32, wrap_u64, wrap_i32, List.length_cons, List.length_nil, List.length_append, List.length_map, tmodN, tdivN]); omega) | rfl | skip) (agree_cons rfl (by rw [hx, i1 i (by omega), hy, Option.getD_some, Option.getD_some, or4 (hv_lt hx) (hv_lt hy)]; exact congrArg (AV.bs · true) (by simp only [List.map_cons, List.map_nil, toB_ofNat])) (agree_cons rfl (by first | with_reducible rfl | (refine congrArg (AV.int _) ?_; (try simp only [wrap_i64', wrap_u8, wrap_u16, wrap_u32, wrap_u64, wrap_i32, List.length_cons, List.length_nil, List.length_append, List.length_map, tmodN, tdivN]); omega) | rfl | skip) (trivial)))) (by rfl)
    · try simp only [decide_eq_true_eq, decide_eq_false_iff_not, notT, notF, beq_iff_eq, beq_eq_false_iff_ne, bne_iff_ne, bne_eq_false_iff_eq, tmodN, tdivN, Int.not_lt, Int.not_le] at g21
      refine Runs.exit rfl ?_
      refine Runs.seq ?_
      refine Runs.reg [] [0] rfl (by (try simp only [wrap_i64', wrap_u8, wrap_u16, wrap_u32, wrap_u64, wrap_i32, List.length_cons, List.length_nil, List.length_append, List.length_map, tmodN, tdivN]); and_intros <;> first | exact True.intro | omega | skip) ?_
      exact Runs.retH Tryd.func14 rfl rfl (by rw [hi.done (by omega)]; rfl) (by rfl)


def decF : List UInt8 → Nat → Option Nat
  | [], n => some n
  | c :: r, n => if 48 ≤ c.toNat ∧ c.toNat ≤ 57 then decF r (10 * n + (c.toNat - 48)) else none
def intF (s : List UInt8) : Option Nat := if s.length < 1 ∨ 18 < s.length ∨ (1 < s.length ∧ (s.getD 0 0).toNat = 48) then none else decF s 0
structure DecI (s : List UInt8) (i n : Nat) : Prop where
  le : i ≤ s.length
  le18 : s.length ≤ 18
  lt : n < 10 ^ i
  eq : decF s 0 = decF (s.drop i) n
theorem DecI.n17 {s i n} (h : DecI s i n) (hi : i < s.length) : n < 100000000000000000 := by
  have h1 := h.le18
  exact Nat.lt_of_lt_of_le h.lt (Nat.pow_le_pow_right (n := 10) (by decide) (show i ≤ 17 by omega))
theorem DecI.n18 {s i n} (h : DecI s i n) : n < 1000000000000000000 := by
  have h1 := h.le18; have h2 := h.le
  exact Nat.lt_of_lt_of_le h.lt (Nat.pow_le_pow_right (n := 10) (by decide) (show i ≤ 18 by omega))
theorem DecI.bad {s i n} (h : DecI s i n) (hi : i < s.length) (hc : ¬ (48 ≤ (s.getD i 0).toNat ∧ (s.getD i 0).toNat ≤ 57)) : decF s 0 = none := by
  rw [h.eq, List.drop_eq_getElem_cons hi, decF]
  have : s[i] = s.getD i 0 := by rw [List.getD_eq_getElem?_getD, List.getElem?_eq_getElem hi]; rfl
  rw [this, if_neg hc]
theorem DecI.step {s i n} (h : DecI s i n) (hi : i < s.length) (hc : 48 ≤ (s.getD i 0).toNat ∧ (s.getD i 0).toNat ≤ 57) : DecI s (i + 1) (10 * n + ((s.getD i 0).toNat - 48)) := by
  refine ⟨by omega, h.le18, ?_, ?_⟩
  · have := h.lt
    rw [Nat.pow_succ]; omega
  · rw [h.eq, List.drop_eq_getElem_cons hi, decF]
    have : s[i] = s.getD i 0 := by rw [List.getD_eq_getElem?_getD, List.getElem?_eq_getElem hi]; rfl
    rw [this, if_pos hc]
theorem DecI.done {s i n} (h : DecI s i n) (hi : s.length ≤ i) : decF s 0 = some n := by
  rw [h.eq, List.drop_eq_nil_of_le hi, decF]
theorem intF_none {s : List UInt8} (h : s.length < 1 ∨ 18 < s.length ∨ (1 < s.length ∧ (s.getD 0 0).toNat = 48)) : intF s = none := if_pos h
theorem intF_dec {s : List UInt8} (h : ¬ (s.length < 1 ∨ 18 < s.length ∨ (1 < s.length ∧ (s.getD 0 0).toNat = 48))) : intF s = decF s 0 := if_neg h

theorem int_ok (s : List UInt8) (hs : s.length ≤ 16777216) : FnOK Tryd.prog 9 [.str s] [] (.tup [.int .i64 ((intF s).getD 0 : Nat), .bool (intF s).isSome]) [] := by
  refine FnOK.of_runs Tryd.func9 rfl (Nat.le_of_ble_eq_true rfl) ?_
  refine Runs.seq ?_
  refine Runs.reg [] [] rfl (by (try simp only [wrap_i64', wrap_u8, wrap_u16, wrap_u32, wrap_u64, wrap_i32, List.length_cons, List.length_nil, List.length_append, List.length_map, tmodN, tdivN]); and_intros <;> first | exact True.intro | omega | skip) ?_
  refine Runs.seq ?_
  refine Runs.seq ?_
  refine Runs.meet (σ := Bool) (fun g => g = true ↔ (s.length < 1 ∨ 18 < s.length ∨ (1 < s.length ∧ (s.getD 0 0).toNat = 48))) (fun g => [(0, .str s), (23, .bool g)]) (fun _ => []) (fun g hg => ?_) (fun meet_a => ?_)
  · skip
    refine Runs.condS rfl (fun g23 => ?_) (fun g23 => ?_)
    · try simp only [decide_eq_true_eq, decide_eq_false_iff_not, notT, notF, beq_iff_eq, beq_eq_false_iff_ne, bne_iff_ne, bne_eq_false_iff_eq, tmodN, tdivN, Int.not_lt, Int.not_le] at g23
      refine Runs.seq ?_
      refine Runs.reg [] [] rfl (by (try simp only [wrap_i64', wrap_u8, wrap_u16, wrap_u32, wrap_u64, wrap_i32, List.length_cons, List.length_nil, List.length_append, List.length_map, tmodN, tdivN]); and_intros <;> first | exact True.intro | omega | skip) ?_
      exact Runs.retH Tryd.func9 rfl rfl (by rw [intF_none (hg.1 g23)]; rfl) (by rfl)
    · try simp only [decide_eq_true_eq, decide_eq_false_iff_not, notT, notF, beq_iff_eq, beq_eq_false_iff_ne, bne_iff_ne, bne_eq_false_iff_eq, tmodN, tdivN, Int.not_lt, Int.not_le] at g23
      refine Runs.skip ?_
      refine Runs.seq ?_
      refine Runs.reg [] [] rfl (by (try simp only [wrap_i64', wrap_u8, wrap_u16, wrap_u32, wrap_u64, wrap_i32, List.length_cons, List.length_nil, List.length_append, List.length_map, tmodN, tdivN]); and_intros <;> first | exact True.intro | omega | skip) ?_
      refine Runs.seq ?_
      refine Runs.seq ?_
      refine Runs.reg [] [0] rfl (by (try simp only [wrap_i64', wrap_u8, wrap_u16, wrap_u32, wrap_u64, wrap_i32, List.length_cons, List.length_nil, List.length_append, List.length_map, tmodN, tdivN]); and_intros <;> first | exact True.intro | omega | skip) ?_
      refine Runs.block ?_
      -- loop 0
      have hcs := Bool.eq_false_iff.1 g23; rw [Ne, hg] at hcs
      refine Runs.loopF (σ := Nat × Nat) (fun p => DecI s p.1 p.2) (fun p => [(0, .str s), (4, .int .i64 p.2), (25, .int .i64 s.length), (26, .int .i64 p.1)]) (fun _ => []) (fun p => s.length - p.1) ((0, 0)) (by exact ⟨Nat.zero_le _, by omega, by decide, rfl⟩) (by exact agree_cons rfl (by first | with_reducible rfl | (refine congrArg (AV.int _) ?_; (try simp only [wrap_i64', wrap_u8, wrap_u16, wrap_u32, wrap_u64, wrap_i32, List.length_cons, List.length_nil, List.length_append, List.length_map, tmodN, tdivN]); omega) | rfl | skip) (agree_cons rfl (by first | with_reducible rfl | (refine congrArg (AV.int _) ?_; (try simp only [wrap_i64', wrap_u8, wrap_u16, wrap_u32, wrap_u64, wrap_i32, List.length_cons, List.length_nil, List.length_append, List.length_map, tmodN, tdivN]); omega) | rfl | skip) (agree_cons rfl (by first | with_reducible rfl | (refine congrArg (AV.int _) ?_; (try simp only [wrap_i64', wrap_u8, wrap_u16, wrap_u32, wrap_u64, wrap_i32, List.length_cons, List.length_nil, List.length_append, List.length_map, tmodN, tdivN]); omega) | rfl | skip) (agree_cons rfl (by first | with_reducible rfl | (refine congrArg (AV.int _) ?_; (try simp only [wrap_i64', wrap_u8, wrap_u16, wrap_u32, wrap_u64, wrap_i32, List.length_cons, List.length_nil, List.length_append, List.length_map, tmodN, tdivN]); omega) | rfl | skip) (trivial))))) (by rfl) (fun ⟨i, m⟩ hi ih => ?_)
      have hi : DecI s i m := hi; have hle := hi.le; have h18 := hi.le18; have hn := hi.n18; have h17 := hi.n17; have hc := u8lt (s.getD (i : Int).toNat 0)
      refine Runs.seq ?_
      refine Runs.reg [] [] rfl (by (try simp only [wrap_i64', wrap_u8, wrap_u16, wrap_u32, wrap_u64, wrap_i32, List.length_cons, List.length_nil, List.length_append, List.length_map, tmodN, tdivN]); and_intros <;> first | exact True.intro | omega | skip) ?_
      refine Runs.seq ?_
      refine Runs.condS rfl (fun g27 => ?_) (fun g27 => ?_)
      · try simp only [decide_eq_true_eq, decide_eq_false_iff_not, notT, notF, beq_iff_eq, beq_eq_false_iff_ne, bne_iff_ne, bne_eq_false_iff_eq, tmodN, tdivN, Int.not_lt, Int.not_le] at g27
        refine Runs.skip ?_
        refine Runs.seq ?_
        refine Runs.block ?_
        refine Runs.seq ?_
        refine Runs.reg [] [0] rfl (by (try simp only [wrap_i64', wrap_u8, wrap_u16, wrap_u32, wrap_u64, wrap_i32, List.length_cons, List.length_nil, List.length_append, List.length_map, tmodN, tdivN]); and_intros <;> first | exact True.intro | omega | skip) ?_
        refine Runs.seq ?_
        refine Runs.seq ?_
        refine Runs.region ?_
        refine Runs.restTo 5 [] [0, 1, 5, 6] rfl (by (try simp only [wrap_i64', wrap_u8, wrap_u16, wrap_u32, wrap_u64, wrap_i32, List.length_cons, List.length_nil, List.length_append, List.length_map, tmodN, tdivN]); and_intros <;> first | exact True.intro | omega | skip) ?_
        refine Runs.splitS 33 rfl (fun g33 => ?_) (fun g33 => ?_)
        · try simp only [decide_eq_true_eq, decide_eq_false_iff_not, notT, notF, beq_iff_eq, beq_eq_false_iff_ne, bne_iff_ne, bne_eq_false_iff_eq, tmodN, tdivN, Int.not_lt, Int.not_le] at g33
          refine Runs.rest [] [0, 1, 5, 6] rfl (by (try simp only [wrap_i64', wrap_u8, wrap_u16, wrap_u32, wrap_u64, wrap_i32, List.length_cons, List.length_nil, List.length_append, List.length_map, tmodN, tdivN]); and_intros <;> first | exact True.intro | omega | skip) ?_
          refine Runs.condT rfl ?_
          refine Runs.seq ?_
          refine Runs.reg [] [] rfl (by (try simp only [wrap_i64', wrap_u8, wrap_u16, wrap_u32, wrap_u64, wrap_i32, List.length_cons, List.length_nil, List.length_append, List.length_map, tmodN, tdivN]); and_intros <;> first | exact True.intro | omega | skip) ?_
          exact Runs.retH Tryd.func9 rfl rfl (by rw [intF_dec hcs, hi.bad (by omega) (by simp only [Int.toNat_natCast] at g33; omega)]; rfl) (by rfl)
        · try simp only [decide_eq_true_eq, decide_eq_false_iff_not, notT, notF, beq_iff_eq, beq_eq_false_iff_ne, bne_iff_ne, bne_eq_false_iff_eq, tmodN, tdivN, Int.not_lt, Int.not_le] at g33
          refine Runs.rest [] [0, 1, 5, 6] rfl (by (try simp only [wrap_i64', wrap_u8, wrap_u16, wrap_u32, wrap_u64, wrap_i32, List.length_cons, List.length_nil, List.length_append, List.length_map, tmodN, tdivN]); and_intros <;> first | exact True.intro | omega | skip) ?_
          refine Runs.condS rfl (fun g38 => ?_) (fun g38 => ?_)
          · try simp only [decide_eq_true_eq, decide_eq_false_iff_not, notT, notF, beq_iff_eq, beq_eq_false_iff_ne, bne_iff_ne, bne_eq_false_iff_eq, tmodN, tdivN, Int.not_lt, Int.not_le] at g38
            refine Runs.seq ?_
            refine Runs.reg [] [] rfl (by (try simp only [wrap_i64', wrap_u8, wrap_u16, wrap_u32, wrap_u64, wrap_i32, List.length_cons, List.length_nil, List.length_append, List.length_map, tmodN, tdivN]); and_intros <;> first | exact True.intro | omega | skip) ?_
            exact Runs.retH Tryd.func9 rfl rfl (by rw [intF_dec hcs, hi.bad (by omega) (by simp only [Int.toNat_natCast] at g38; omega)]; rfl) (by rfl)
          · try simp only [decide_eq_true_eq, decide_eq_false_iff_not, notT, notF, beq_iff_eq, beq_eq_false_iff_ne, bne_iff_ne, bne_eq_false_iff_eq, tmodN, tdivN, Int.not_lt, Int.not_le] at g38
            refine Runs.skip ?_
            refine Runs.reg [] [2, 3] rfl (by (try simp only [wrap_i64', wrap_u8, wrap_u16, wrap_u32, wrap_u64, wrap_i32, List.length_cons, List.length_nil, List.length_append, List.length_map, tmodN, tdivN]); and_intros <;> first | exact True.intro | omega | skip) ?_
            refine Runs.inBlock ?_
            refine Runs.reg [] [] rfl (by (try simp only [wrap_i64', wrap_u8, wrap_u16, wrap_u32, wrap_u64, wrap_i32, List.length_cons, List.length_nil, List.length_append, List.length_map, tmodN, tdivN]); and_intros <;> first | exact True.intro | omega | skip) ?_
            exact ih (i + 1, 10 * m + ((s.getD (i : Int).toNat 0).toNat - 48)) _ _ (by exact hi.step (by omega) ⟨Int.ofNat_le.1 g33, Int.ofNat_le.1 g38⟩) (by simp only; omega) (by exact agree_cons rfl (by first | with_reducible rfl | (refine congrArg (AV.int _) ?_; (try simp only [wrap_i64', wrap_u8, wrap_u16, wrap_u32, wrap_u64, wrap_i32, List.length_cons, List.length_nil, List.length_append, List.length_map, tmodN, tdivN]); omega) | rfl | skip) (agree_cons rfl (by have h17 := h17 (by omega); rw [u8_id (x := ((s.getD (i : Int).toNat 0).toNat : Int) - 48) (by omega) (by omega), i64_id (x := 10 * (m : Int)) (by omega) (by omega), i64_id (x := ((s.getD (i : Int).toNat 0).toNat : Int) - 48) (by omega) (by omega), i64_id (by omega) (by omega)]; refine congrArg (AV.int _) ?_; simp only []; omega) (agree_cons rfl (by first | with_reducible rfl | (refine congrArg (AV.int _) ?_; (try simp only [wrap_i64', wrap_u8, wrap_u16, wrap_u32, wrap_u64, wrap_i32, List.length_cons, List.length_nil, List.length_append, List.length_map, tmodN, tdivN]); omega) | rfl | skip) (agree_cons rfl (by first | with_reducible rfl | (refine congrArg (AV.int _) ?_; (try simp only [wrap_i64', wrap_u8, wrap_u16, wrap_u32, wrap_u64, wrap_i32, List.length_cons, List.length_nil, List.length_append, List.length_map, tmodN, tdivN]); omega) | rfl | skip) (trivial))))) (by rfl)
      · try simp only [decide_eq_true_eq, decide_eq_false_iff_not, notT, notF, beq_iff_eq, beq_eq_false_iff_ne, bne_iff_ne, bne_eq_false_iff_eq, tmodN, tdivN, Int.not_lt, Int.not_le] at g27
        refine Runs.exit rfl ?_
        refine Runs.seq ?_
        refine Runs.reg [] [0] rfl (by (try simp only [wrap_i64', wrap_u8, wrap_u16, wrap_u32, wrap_u64, wrap_i32, List.length_cons, List.length_nil, List.length_append, List.length_map, tmodN, tdivN]); and_intros <;> first | exact True.intro | omega | skip) ?_
        exact Runs.retH Tryd.func9 rfl rfl (by rw [intF_dec hcs, hi.done (by omega)]; rfl) (by rfl)
  · skip
    refine Runs.region ?_
    refine Runs.restTo 4 [] [0, 4, 9, 13] rfl (by (try simp only [wrap_i64', wrap_u8, wrap_u16, wrap_u32, wrap_u64, wrap_i32, List.length_cons, List.length_nil, List.length_append, List.length_map, tmodN, tdivN]); and_intros <;> first | exact True.intro | omega | skip) ?_
    refine Runs.splitS 9 rfl (fun g9 => ?_) (fun g9 => ?_)
    · try simp only [decide_eq_true_eq, decide_eq_false_iff_not, notT, notF, beq_iff_eq, beq_eq_false_iff_ne, bne_iff_ne, bne_eq_false_iff_eq, tmodN, tdivN, Int.not_lt, Int.not_le] at g9
      refine Runs.rest [] [0, 4, 9, 13] rfl (by (try simp only [wrap_i64', wrap_u8, wrap_u16, wrap_u32, wrap_u64, wrap_i32, List.length_cons, List.length_nil, List.length_append, List.length_map, tmodN, tdivN]); and_intros <;> first | exact True.intro | omega | skip) ?_
      exact meet_a (true) _ _ (by simp only [beq_iff_eq, true_iff, Bool.false_eq_true, false_iff, Int.toNat_zero]; omega) (by exact agree_cons rfl (by first | with_reducible rfl | (refine congrArg (AV.int _) ?_; (try simp only [wrap_i64', wrap_u8, wrap_u16, wrap_u32, wrap_u64, wrap_i32, List.length_cons, List.length_nil, List.length_append, List.length_map, tmodN, tdivN]); omega) | rfl | skip) (agree_cons rfl (by first | with_reducible rfl | (refine congrArg (AV.int _) ?_; (try simp only [wrap_i64', wrap_u8, wrap_u16, wrap_u32, wrap_u64, wrap_i32, List.length_cons, List.length_nil, List.length_append, List.length_map, tmodN, tdivN]); omega) | rfl | skip) (trivial))) (by rfl)
    · try simp only [decide_eq_true_eq, decide_eq_false_iff_not, notT, notF, beq_iff_eq, beq_eq_false_iff_ne, bne_iff_ne, bne_eq_false_iff_eq, tmodN, tdivN, Int.not_lt, Int.not_le] at g9
      refine Runs.restTo 5 [] [0, 4, 9, 13] rfl (by (try simp only [wrap_i64', wrap_u8, wrap_u16, wrap_u32, wrap_u64, wrap_i32, List.length_cons, List.length_nil, List.length_append, List.length_map, tmodN, tdivN]); and_intros <;> first | exact True.intro | omega | skip) ?_
      refine Runs.splitS 14 rfl (fun g14 => ?_) (fun g14 => ?_)
      · try simp only [decide_eq_true_eq, decide_eq_false_iff_not, notT, notF, beq_iff_eq, beq_eq_false_iff_ne, bne_iff_ne, bne_eq_false_iff_eq, tmodN, tdivN, Int.not_lt, Int.not_le] at g14
        refine Runs.rest [] [0, 4, 9, 13] rfl (by (try simp only [wrap_i64', wrap_u8, wrap_u16, wrap_u32, wrap_u64, wrap_i32, List.length_cons, List.length_nil, List.length_append, List.length_map, tmodN, tdivN]); and_intros <;> first | exact True.intro | omega | skip) ?_
        exact meet_a (true) _ _ (by simp only [beq_iff_eq, true_iff, Bool.false_eq_true, false_iff, Int.toNat_zero]; omega) (by exact agree_cons rfl (by first | with_reducible rfl | (refine congrArg (AV.int _) ?_; (try simp only [wrap_i64', wrap_u8, wrap_u16, wrap_u32, wrap_u64, wrap_i32, List.length_cons, List.length_nil, List.length_append, List.length_map, tmodN, tdivN]); omega) | rfl | skip) (agree_cons rfl (by first | with_reducible rfl | (refine congrArg (AV.int _) ?_; (try simp only [wrap_i64', wrap_u8, wrap_u16, wrap_u32, wrap_u64, wrap_i32, List.length_cons, List.length_nil, List.length_append, List.length_map, tmodN, tdivN]); omega) | rfl | skip) (trivial))) (by rfl)
      · try simp only [decide_eq_true_eq, decide_eq_false_iff_not, notT, notF, beq_iff_eq, beq_eq_false_iff_ne, bne_iff_ne, bne_eq_false_iff_eq, tmodN, tdivN, Int.not_lt, Int.not_le] at g14
        refine Runs.restTo 4 [] [0, 4, 9, 13] rfl (by (try simp only [wrap_i64', wrap_u8, wrap_u16, wrap_u32, wrap_u64, wrap_i32, List.length_cons, List.length_nil, List.length_append, List.length_map, tmodN, tdivN]); and_intros <;> first | exact True.intro | omega | skip) ?_
        refine Runs.splitS 18 rfl (fun g18 => ?_) (fun g18 => ?_)
        · try simp only [decide_eq_true_eq, decide_eq_false_iff_not, notT, notF, beq_iff_eq, beq_eq_false_iff_ne, bne_iff_ne, bne_eq_false_iff_eq, tmodN, tdivN, Int.not_lt, Int.not_le] at g18
          refine Runs.rest [] [0, 4, 9, 13] rfl (by (try simp only [wrap_i64', wrap_u8, wrap_u16, wrap_u32, wrap_u64, wrap_i32, List.length_cons, List.length_nil, List.length_append, List.length_map, tmodN, tdivN]); and_intros <;> first | exact True.intro | omega | skip) ?_
          exact meet_a (((s.getD (0 : Int).toNat 0).toNat : Int) == 48) _ _ (by simp only [beq_iff_eq, true_iff, Bool.false_eq_true, false_iff, Int.toNat_zero]; omega) (by exact agree_cons rfl (by first | with_reducible rfl | (refine congrArg (AV.int _) ?_; (try simp only [wrap_i64', wrap_u8, wrap_u16, wrap_u32, wrap_u64, wrap_i32, List.length_cons, List.length_nil, List.length_append, List.length_map, tmodN, tdivN]); omega) | rfl | skip) (agree_cons rfl (by first | with_reducible rfl | (refine congrArg (AV.int _) ?_; (try simp only [wrap_i64', wrap_u8, wrap_u16, wrap_u32, wrap_u64, wrap_i32, List.length_cons, List.length_nil, List.length_append, List.length_map, tmodN, tdivN]); omega) | rfl | skip) (trivial))) (by rfl)
        · try simp only [decide_eq_true_eq, decide_eq_false_iff_not, notT, notF, beq_iff_eq, beq_eq_false_iff_ne, bne_iff_ne, bne_eq_false_iff_eq, tmodN, tdivN, Int.not_lt, Int.not_le] at g18
          refine Runs.rest [] [0, 4, 9, 13] rfl (by (try simp only [wrap_i64', wrap_u8, wrap_u16, wrap_u32, wrap_u64, wrap_i32, List.length_cons, List.length_nil, List.length_append, List.length_map, tmodN, tdivN]); and_intros <;> first | exact True.intro | omega | skip) ?_
          exact meet_a (false) _ _ (by simp only [beq_iff_eq, true_iff, Bool.false_eq_true, false_iff, Int.toNat_zero]; omega) (by exact agree_cons rfl (by first | with_reducible rfl | (refine congrArg (AV.int _) ?_; (try simp only [wrap_i64', wrap_u8, wrap_u16, wrap_u32, wrap_u64, wrap_i32, List.length_cons, List.length_nil, List.length_append, List.length_map, tmodN, tdivN]); omega) | rfl | skip) (agree_cons rfl (by first | with_reducible rfl | (refine congrArg (AV.int _) ?_; (try simp only [wrap_i64', wrap_u8, wrap_u16, wrap_u32, wrap_u64, wrap_i32, List.length_cons, List.length_nil, List.length_append, List.length_map, tmodN, tdivN]); omega) | rfl | skip) (trivial))) (by rfl)


def be4 (n : Nat) : List UInt8 := [UInt8.ofNat (n / 16777216), UInt8.ofNat (n / 65536), UInt8.ofNat (n / 256), UInt8.ofNat n]
def packL (l : List (List UInt8)) : List UInt8 := l.flatMap fun s => be4 s.length ++ s
abbrev strEl (l : List (List UInt8)) : Nat → AV := fun i => .str (l.getD i [])
theorem packL_snoc (l : List (List UInt8)) (s : List UInt8) : packL (l ++ [s]) = packL l ++ be4 s.length ++ s := by simp [packL, List.flatMap_append]
theorem packL_app (l r : List (List UInt8)) : packL (l ++ r) = packL l ++ packL r := by simp [packL, List.flatMap_append]
theorem packL_take (l : List (List UInt8)) (i : Nat) (h : i < l.length) : packL (l.take (i + 1)) = packL (l.take i) ++ be4 (l.getD i []).length ++ l.getD i [] := by
  rw [take_succ' l i [] h, packL_snoc]
theorem packL_le (l : List (List UInt8)) (i : Nat) : (packL (l.take i)).length ≤ (packL l).length := by
  have := congrArg List.length (packL_app (l.take i) (l.drop i))
  rw [List.take_append_drop, List.length_append] at this; omega
theorem packL_len1 (l : List (List UInt8)) (i : Nat) (h : i < l.length) : (packL (l.take (i + 1))).length = (packL (l.take i)).length + (4 + (l.getD i []).length) := by
  rw [packL_take l i h]; simp [be4]; omega
theorem shr24 (n : Nat) : (n : Int).fdiv (2 ^ min (Int.toNat 24) IntKind.i64.bits) = ((n / 16777216 : Nat) : Int) := by
  show (n : Int).fdiv 16777216 = _
  rw [Int.fdiv_eq_ediv_of_nonneg _ (by decide)]; rfl
theorem shr16 (n : Nat) : (n : Int).fdiv (2 ^ min (Int.toNat 16) IntKind.i64.bits) = ((n / 65536 : Nat) : Int) := by
  show (n : Int).fdiv 65536 = _
  rw [Int.fdiv_eq_ediv_of_nonneg _ (by decide)]; rfl
theorem shr8 (n : Nat) : (n : Int).fdiv (2 ^ min (Int.toNat 8) IntKind.i64.bits) = ((n / 256 : Nat) : Int) := by
  show (n : Int).fdiv 256 = _
  rw [Int.fdiv_eq_ediv_of_nonneg _ (by decide)]; rfl
theorem toB_mod (n : Nat) : toB ((n : Int) % 256) = UInt8.ofNat n := by
  unfold toB
  apply UInt8.toNat_inj.1
  simp only [UInt8.toNat_ofNat']
  omega
theorem pack_bytes (n : Nat) : List.map toB [IntKind.u8.wrap ((n / 16777216 : Nat) : Int), IntKind.u8.wrap ((n / 65536 : Nat) : Int), IntKind.u8.wrap ((n / 256 : Nat) : Int), IntKind.u8.wrap (n : Int)] = be4 n := by
  simp only [wrap_u8, List.map_cons, List.map_nil, toB_mod, be4]
theorem inj {a b : List UInt8} {o : Bool} (h : a = b) : AV.bs a o = AV.bs b o := by rw [h]
theorem sinj {a b : List UInt8} (h : a = b) : AV.str a = AV.str b := by rw [h]
def put64L (n : Nat) : List UInt8 := (List.range 8).map fun k => UInt8.ofNat (n / 2 ^ (56 - 8 * k))
def putBlk (n i : Nat) : List AV := (List.range 8).map fun k => .int .u8 (if k < i then ((UInt8.ofNat (n / 2 ^ (56 - 8 * k))).toNat : Int) else 0)
theorem putBlk_set (n i : Nat) (h : i < 8) : (putBlk n i).set i (.int .u8 (UInt8.ofNat (n / 2 ^ (56 - 8 * i))).toNat) = putBlk n (i + 1) := by
  apply List.ext_getElem?
  intro k
  simp only [putBlk, List.getElem?_set, List.getElem?_map, List.length_map, List.length_range]
  by_cases hk : k < 8
  · rw [List.getElem?_range hk]
    by_cases e : i = k
    · subst e; simp [h]
    · rw [if_neg e]
      simp only [Option.map_some]
      by_cases h1 : k < i
      · rw [if_pos h1, if_pos (by omega)]
      · rw [if_neg h1, if_neg (by omega)]
  · have : (List.range 8)[k]? = none := by simp; omega
    rw [this]
    by_cases e : i = k
    · omega
    · simp [e]
theorem put_done (n i : Nat) (h1 : i ≤ 8) (h2 : 8 ≤ i) : List.take 8 (List.drop 0 (putBlk n i)) = (put64L n).map fun c => .int .u8 c.toNat := by
  have : i = 8 := by omega
  subst this
  rw [List.drop_zero, List.take_of_length_le (by simp [putBlk])]
  unfold putBlk put64L
  rw [List.map_map]
  refine List.map_congr_left fun k hk => ?_
  simp only [Function.comp, if_pos (List.mem_range.1 hk)]
theorem u8mod (n : Nat) : IntKind.u8.wrap (n : Int) = ((UInt8.ofNat n).toNat : Int) := by rw [wrap_u8]; simp
theorem put_val (n i : Nat) (h : i < 8) : IntKind.u8.wrap ((n : Int).fdiv (2 ^ min (IntKind.i64.wrap (56 - IntKind.i64.wrap (8 * (i : Int)))).toNat IntKind.u64.bits)) = ((UInt8.ofNat (n / 2 ^ (56 - 8 * i))).toNat : Int) := by
  have e : (IntKind.i64.wrap (56 - IntKind.i64.wrap (8 * (i : Int)))).toNat = 56 - 8 * i := by
    rw [i64_id (x := 8 * (i : Int)) (by omega) (by omega), i64_id (by omega) (by omega)]; omega
  have e2 : min (56 - 8 * i) IntKind.u64.bits = 56 - 8 * i := Nat.min_eq_left (by show _ ≤ 64; omega)
  rw [e, e2, Int.fdiv_eq_ediv_of_nonneg _ (by exact_mod_cast Nat.zero_le (2 ^ (56 - 8 * i))), show ((n : Int) / 2 ^ (56 - 8 * i)) = ((n / 2 ^ (56 - 8 * i) : Nat) : Int) by push_cast; rfl, u8mod]

theorem pack_ok (l : List (List UInt8)) (o : Bool) (hl : l.length ≤ 16777216) (hb : (packL l).length ≤ 8388608) : FnOK Tryd.prog 19 [.sl 1 l.length (strEl l) o] [] (.bs (packL l) false) [] := by
  refine FnOK.of_runs Tryd.func19 rfl (Nat.le_of_ble_eq_true rfl) ?_
  refine Runs.seq ?_
  refine Runs.reg [] [] rfl (by (try simp only [wrap_i64', wrap_u8, wrap_u16, wrap_u32, wrap_u64, wrap_i32, List.length_cons, List.length_nil, List.length_append, List.length_map, tmodN, tdivN]); and_intros <;> first | exact True.intro | omega | skip) ?_
  refine Runs.seq ?_
  refine Runs.reg [] [] rfl (by (try simp only [wrap_i64', wrap_u8, wrap_u16, wrap_u32, wrap_u64, wrap_i32, List.length_cons, List.length_nil, List.length_append, List.length_map, tmodN, tdivN]); and_intros <;> first | exact True.intro | omega | skip) ?_
  refine Runs.seq ?_
  refine Runs.seq ?_
  refine Runs.reg [] [0] rfl (by (try simp only [wrap_i64', wrap_u8, wrap_u16, wrap_u32, wrap_u64, wrap_i32, List.length_cons, List.length_nil, List.length_append, List.length_map, tmodN, tdivN]); and_intros <;> first | exact True.intro | omega | skip) ?_
  refine Runs.block ?_
  -- loop 0
  refine Runs.loopF (σ := Nat) (fun i => i ≤ l.length) (fun i => [(0, .sl 1 l.length (strEl l) o), (3, .int .i64 (packL (l.take i)).length), (10, .sl 1 l.length (strEl l) false), (11, .int .i64 l.length), (12, .int .i64 i)]) (fun _ => []) (fun i => l.length - i) (0) (by exact Nat.zero_le _) (by exact agree_cons rfl (by first | with_reducible rfl | (refine congrArg (AV.int _) ?_; (try simp only [wrap_i64', wrap_u8, wrap_u16, wrap_u32, wrap_u64, wrap_i32, List.length_cons, List.length_nil, List.length_append, List.length_map, tmodN, tdivN]); omega) | rfl | skip) (agree_cons rfl (by first | with_reducible rfl | (refine congrArg (AV.int _) ?_; (try simp only [wrap_i64', wrap_u8, wrap_u16, wrap_u32, wrap_u64, wrap_i32, List.length_cons, List.length_nil, List.length_append, List.length_map, tmodN, tdivN]); omega) | rfl | skip) (agree_cons rfl (by first | with_reducible rfl | (refine congrArg (AV.int _) ?_; (try simp only [wrap_i64', wrap_u8, wrap_u16, wrap_u32, wrap_u64, wrap_i32, List.length_cons, List.length_nil, List.length_append, List.length_map, tmodN, tdivN]); omega) | rfl | skip) (agree_cons rfl (by first | with_reducible rfl | (refine congrArg (AV.int _) ?_; (try simp only [wrap_i64', wrap_u8, wrap_u16, wrap_u32, wrap_u64, wrap_i32, List.length_cons, List.length_nil, List.length_append, List.length_map, tmodN, tdivN]); omega) | rfl | skip) (agree_cons rfl (by first | with_reducible rfl | (refine congrArg (AV.int _) ?_; (try simp only [wrap_i64', wrap_u8, wrap_u16, wrap_u32, wrap_u64, wrap_i32, List.length_cons, List.length_nil, List.length_append, List.length_map, tmodN, tdivN]); omega) | rfl | skip) (trivial)))))) (by rfl) (fun i hi ih => ?_)
  have hp := packL_le l i; have hp1 := packL_le l (i + 1); have hp2 := packL_len1 l i
  refine Runs.seq ?_
  refine Runs.reg [] [] rfl (by (try simp only [wrap_i64', wrap_u8, wrap_u16, wrap_u32, wrap_u64, wrap_i32, List.length_cons, List.length_nil, List.length_append, List.length_map, tmodN, tdivN]); and_intros <;> first | exact True.intro | omega | skip) ?_
  refine Runs.seq ?_
  refine Runs.condS rfl (fun g13 => ?_) (fun g13 => ?_)
  · try simp only [decide_eq_true_eq, decide_eq_false_iff_not, notT, notF, beq_iff_eq, beq_eq_false_iff_ne, bne_iff_ne, bne_eq_false_iff_eq, tmodN, tdivN, Int.not_lt, Int.not_le] at g13
    refine Runs.skip ?_
    refine Runs.seq ?_
    refine Runs.block ?_
    refine Runs.seq ?_
    refine Runs.reg [] [] rfl (by (try simp only [wrap_i64', wrap_u8, wrap_u16, wrap_u32, wrap_u64, wrap_i32, List.length_cons, List.length_nil, List.length_append, List.length_map, tmodN, tdivN]); and_intros <;> first | exact True.intro | omega | skip) ?_
    refine Runs.reg [] [1] rfl (by (try simp only [wrap_i64', wrap_u8, wrap_u16, wrap_u32, wrap_u64, wrap_i32, List.length_cons, List.length_nil, List.length_append, List.length_map, tmodN, tdivN]); and_intros <;> first | exact True.intro | omega | skip) ?_
    refine Runs.inBlock ?_
    refine Runs.reg [] [] rfl (by (try simp only [wrap_i64', wrap_u8, wrap_u16, wrap_u32, wrap_u64, wrap_i32, List.length_cons, List.length_nil, List.length_append, List.length_map, tmodN, tdivN]); and_intros <;> first | exact True.intro | omega | skip) ?_
    exact ih (i + 1) _ _ (by first | exact True.intro | omega) (by omega) (by exact agree_cons rfl (by first | with_reducible rfl | (refine congrArg (AV.int _) ?_; (try simp only [wrap_i64', wrap_u8, wrap_u16, wrap_u32, wrap_u64, wrap_i32, List.length_cons, List.length_nil, List.length_append, List.length_map, tmodN, tdivN]); omega) | rfl | skip) (agree_cons rfl (by have hp2 := hp2 (by omega); rw [i64_id (x := 4 + ((l.getD (i : Int).toNat []).length : Int)) (by simp only [Int.toNat_natCast]; omega) (by simp only [Int.toNat_natCast]; omega), i64_id (by simp only [Int.toNat_natCast]; omega) (by simp only [Int.toNat_natCast]; omega)]; refine congrArg (AV.int _) ?_; simp only [Int.toNat_natCast]; omega) (agree_cons rfl (by first | with_reducible rfl | (refine congrArg (AV.int _) ?_; (try simp only [wrap_i64', wrap_u8, wrap_u16, wrap_u32, wrap_u64, wrap_i32, List.length_cons, List.length_nil, List.length_append, List.length_map, tmodN, tdivN]); omega) | rfl | skip) (agree_cons rfl (by first | with_reducible rfl | (refine congrArg (AV.int _) ?_; (try simp only [wrap_i64', wrap_u8, wrap_u16, wrap_u32, wrap_u64, wrap_i32, List.length_cons, List.length_nil, List.length_append, List.length_map, tmodN, tdivN]); omega) | rfl | skip) (agree_cons rfl (by first | with_reducible rfl | (refine congrArg (AV.int _) ?_; (try simp only [wrap_i64', wrap_u8, wrap_u16, wrap_u32, wrap_u64, wrap_i32, List.length_cons, List.length_nil, List.length_append, List.length_map, tmodN, tdivN]); omega) | rfl | skip) (trivial)))))) (by rfl)
  · try simp only [decide_eq_true_eq, decide_eq_false_iff_not, notT, notF, beq_iff_eq, beq_eq_false_iff_ne, bne_iff_ne, bne_eq_false_iff_eq, tmodN, tdivN, Int.not_lt, Int.not_le] at g13
    refine Runs.exit rfl ?_
    refine Runs.seq ?_
    refine Runs.reg [] [0] rfl (by rw [List.take_of_length_le (by omega)]; and_intros <;> first | exact True.intro | omega) ?_
    refine Runs.seq ?_
    refine Runs.seq ?_
    refine Runs.reg [] [0] rfl (by (try simp only [wrap_i64', wrap_u8, wrap_u16, wrap_u32, wrap_u64, wrap_i32, List.length_cons, List.length_nil, List.length_append, List.length_map, tmodN, tdivN]); and_intros <;> first | exact True.intro | omega | skip) ?_
    refine Runs.block ?_
    -- loop 1
    refine Runs.loopF (σ := Nat) (fun i => i ≤ l.length) (fun i => [(6, .bs (packL (l.take i)) true), (24, .sl 1 l.length (strEl l) false), (25, .int .i64 l.length), (26, .int .i64 i)]) (fun _ => []) (fun i => l.length - i) (0) (by exact Nat.zero_le _) (by exact agree_cons rfl (by first | with_reducible rfl | (refine congrArg (AV.int _) ?_; (try simp only [wrap_i64', wrap_u8, wrap_u16, wrap_u32, wrap_u64, wrap_i32, List.length_cons, List.length_nil, List.length_append, List.length_map, tmodN, tdivN]); omega) | rfl | skip) (agree_cons rfl (by first | with_reducible rfl | (refine congrArg (AV.int _) ?_; (try simp only [wrap_i64', wrap_u8, wrap_u16, wrap_u32, wrap_u64, wrap_i32, List.length_cons, List.length_nil, List.length_append, List.length_map, tmodN, tdivN]); omega) | rfl | skip) (agree_cons rfl (by first | with_reducible rfl | (refine congrArg (AV.int _) ?_; (try simp only [wrap_i64', wrap_u8, wrap_u16, wrap_u32, wrap_u64, wrap_i32, List.length_cons, List.length_nil, List.length_append, List.length_map, tmodN, tdivN]); omega) | rfl | skip) (agree_cons rfl (by first | with_reducible rfl | (refine congrArg (AV.int _) ?_; (try simp only [wrap_i64', wrap_u8, wrap_u16, wrap_u32, wrap_u64, wrap_i32, List.length_cons, List.length_nil, List.length_append, List.length_map, tmodN, tdivN]); omega) | rfl | skip) (trivial))))) (by rfl) (fun j hj ih => ?_)
    have hp := packL_le l j; have hp1 := packL_le l (j + 1); have hp2 := packL_len1 l j
    refine Runs.seq ?_
    refine Runs.reg [] [] rfl (by (try simp only [wrap_i64', wrap_u8, wrap_u16, wrap_u32, wrap_u64, wrap_i32, List.length_cons, List.length_nil, List.length_append, List.length_map, tmodN, tdivN]); and_intros <;> first | exact True.intro | omega | skip) ?_
    refine Runs.seq ?_
    refine Runs.condS rfl (fun g27 => ?_) (fun g27 => ?_)
    · try simp only [decide_eq_true_eq, decide_eq_false_iff_not, notT, notF, beq_iff_eq, beq_eq_false_iff_ne, bne_iff_ne, bne_eq_false_iff_eq, tmodN, tdivN, Int.not_lt, Int.not_le] at g27
      refine Runs.skip ?_
      refine Runs.seq ?_
      refine Runs.block ?_
      refine Runs.seq ?_
      refine Runs.reg [] [] rfl (by (try simp only [wrap_i64', wrap_u8, wrap_u16, wrap_u32, wrap_u64, wrap_i32, List.length_cons, List.length_nil, List.length_append, List.length_map, tmodN, tdivN]); and_intros <;> first | exact True.intro | omega | skip) ?_
      refine Runs.seq ?_
      refine Runs.reg [] [0] rfl (by (try simp only [wrap_i64', wrap_u8, wrap_u16, wrap_u32, wrap_u64, wrap_i32, List.length_cons, List.length_nil, List.length_append, List.length_map, tmodN, tdivN]); and_intros <;> first | exact True.intro | omega | skip) ?_
      refine Runs.seq ?_
      refine Runs.reg [] [1, 4, 7, 10] rfl (by have hp2 := hp2 (by omega); rw [shr24, shr16, shr8]; simp only [List.length_cons, List.length_nil, List.length_map]; and_intros <;> first | exact True.intro | omega | (intro z hz; simp only [List.mem_cons, List.not_mem_nil, or_false, wrap_u8] at hz; omega)) ?_
      refine Runs.reg [] [] rfl (by have hp2 := hp2 (by omega); simp only [List.length_append, List.length_cons, List.length_nil, List.length_map, Int.toNat_natCast]; and_intros <;> first | exact True.intro | omega) ?_
      refine Runs.inBlock ?_
      refine Runs.reg [] [] rfl (by (try simp only [wrap_i64', wrap_u8, wrap_u16, wrap_u32, wrap_u64, wrap_i32, List.length_cons, List.length_nil, List.length_append, List.length_map, tmodN, tdivN]); and_intros <;> first | exact True.intro | omega | skip) ?_
      exact ih (j + 1) _ _ (by first | exact True.intro | omega) (by omega) (by exact agree_cons rfl (by rw [shr24, shr16, shr8, pack_bytes]; exact inj (packL_take l j (by omega)).symm) (agree_cons rfl (by first | with_reducible rfl | (refine congrArg (AV.int _) ?_; (try simp only [wrap_i64', wrap_u8, wrap_u16, wrap_u32, wrap_u64, wrap_i32, List.length_cons, List.length_nil, List.length_append, List.length_map, tmodN, tdivN]); omega) | rfl | skip) (agree_cons rfl (by first | with_reducible rfl | (refine congrArg (AV.int _) ?_; (try simp only [wrap_i64', wrap_u8, wrap_u16, wrap_u32, wrap_u64, wrap_i32, List.length_cons, List.length_nil, List.length_append, List.length_map, tmodN, tdivN]); omega) | rfl | skip) (agree_cons rfl (by first | with_reducible rfl | (refine congrArg (AV.int _) ?_; (try simp only [wrap_i64', wrap_u8, wrap_u16, wrap_u32, wrap_u64, wrap_i32, List.length_cons, List.length_nil, List.length_append, List.length_map, tmodN, tdivN]); omega) | rfl | skip) (trivial))))) (by rfl)
    · try simp only [decide_eq_true_eq, decide_eq_false_iff_not, notT, notF, beq_iff_eq, beq_eq_false_iff_ne, bne_iff_ne, bne_eq_false_iff_eq, tmodN, tdivN, Int.not_lt, Int.not_le] at g27
      refine Runs.exit rfl ?_
      refine Runs.seq ?_
      refine Runs.reg [] [] rfl (by (try simp only [wrap_i64', wrap_u8, wrap_u16, wrap_u32, wrap_u64, wrap_i32, List.length_cons, List.length_nil, List.length_append, List.length_map, tmodN, tdivN]); and_intros <;> first | exact True.intro | omega | skip) ?_
      exact Runs.retH Tryd.func19 rfl rfl (by rw [List.take_of_length_le (by omega)]) (by rfl)

theorem put64_ok (n : Nat) (hn : n < 18446744073709551616) : FnOK Tryd.prog 21 [.int .u64 n] [] (.bs (put64L n) false) [] := by
  refine FnOK.of_runs Tryd.func21 rfl (Nat.le_of_ble_eq_true rfl) ?_
  refine Runs.seq ?_
  refine Runs.reg [] [] rfl (by (try simp only [wrap_i64', wrap_u8, wrap_u16, wrap_u32, wrap_u64, wrap_i32, List.length_cons, List.length_nil, List.length_append, List.length_map, tmodN, tdivN]); and_intros <;> first | exact True.intro | omega | skip) ?_
  refine Runs.seq ?_
  refine Runs.reg [] [] rfl (by (try simp only [wrap_i64', wrap_u8, wrap_u16, wrap_u32, wrap_u64, wrap_i32, List.length_cons, List.length_nil, List.length_append, List.length_map, tmodN, tdivN]); and_intros <;> first | exact True.intro | omega | skip) ?_
  refine Runs.seq ?_
  refine Runs.seq ?_
  refine Runs.reg [] [0] rfl (by (try simp only [wrap_i64', wrap_u8, wrap_u16, wrap_u32, wrap_u64, wrap_i32, List.length_cons, List.length_nil, List.length_append, List.length_map, tmodN, tdivN]); and_intros <;> first | exact True.intro | omega | skip) ?_
  refine Runs.block ?_
  -- loop 0
  refine Runs.loopF (σ := Nat) (fun i => i ≤ 8) (fun i => [(0, .int .u64 n), (3, .hs 0 0 8 8), (7, .int .i64 8), (8, .int .i64 i)]) (fun i => [putBlk n i]) (fun i => 8 - i) (0) (by exact Nat.zero_le _) (by exact agree_cons rfl (by first | with_reducible rfl | (refine congrArg (AV.int _) ?_; (try simp only [wrap_i64', wrap_u8, wrap_u16, wrap_u32, wrap_u64, wrap_i32, List.length_cons, List.length_nil, List.length_append, List.length_map, tmodN, tdivN]); omega) | rfl | skip) (agree_cons rfl (by first | with_reducible rfl | (refine congrArg (AV.int _) ?_; (try simp only [wrap_i64', wrap_u8, wrap_u16, wrap_u32, wrap_u64, wrap_i32, List.length_cons, List.length_nil, List.length_append, List.length_map, tmodN, tdivN]); omega) | rfl | skip) (agree_cons rfl (by first | with_reducible rfl | (refine congrArg (AV.int _) ?_; (try simp only [wrap_i64', wrap_u8, wrap_u16, wrap_u32, wrap_u64, wrap_i32, List.length_cons, List.length_nil, List.length_append, List.length_map, tmodN, tdivN]); omega) | rfl | skip) (agree_cons rfl (by first | with_reducible rfl | (refine congrArg (AV.int _) ?_; (try simp only [wrap_i64', wrap_u8, wrap_u16, wrap_u32, wrap_u64, wrap_i32, List.length_cons, List.length_nil, List.length_append, List.length_map, tmodN, tdivN]); omega) | rfl | skip) (trivial))))) (by rfl) (fun i hi ih => ?_)
  have hle : i ≤ 8 := hi
  refine Runs.seq ?_
  refine Runs.reg [] [] rfl (by (try simp only [wrap_i64', wrap_u8, wrap_u16, wrap_u32, wrap_u64, wrap_i32, List.length_cons, List.length_nil, List.length_append, List.length_map, tmodN, tdivN]); and_intros <;> first | exact True.intro | omega | skip) ?_
  refine Runs.seq ?_
  refine Runs.condS rfl (fun g9 => ?_) (fun g9 => ?_)
  · try simp only [decide_eq_true_eq, decide_eq_false_iff_not, notT, notF, beq_iff_eq, beq_eq_false_iff_ne, bne_iff_ne, bne_eq_false_iff_eq, tmodN, tdivN, Int.not_lt, Int.not_le] at g9
    refine Runs.skip ?_
    refine Runs.seq ?_
    refine Runs.block ?_
    refine Runs.seq ?_
    refine Runs.reg [] [0] rfl (by (try simp only [wrap_i64', wrap_u8, wrap_u16, wrap_u32, wrap_u64, wrap_i32, List.length_cons, List.length_nil, List.length_append, List.length_map, tmodN, tdivN]); and_intros <;> first | exact True.intro | omega | skip) ?_
    refine Runs.reg [] [0, 1, 2, 3] rfl (by rw [i64_id (x := 8 * (i : Int)) (by omega) (by omega), i64_id (x := 56 - 8 * (i : Int)) (by omega) (by omega)]; simp only [putBlk, List.length_map, List.length_range, Int.toNat_natCast, AV.cells, List.length_cons, List.length_nil]; and_intros <;> first | exact True.intro | omega) ?_
    refine Runs.inBlock ?_
    refine Runs.reg [] [] rfl (by (try simp only [wrap_i64', wrap_u8, wrap_u16, wrap_u32, wrap_u64, wrap_i32, List.length_cons, List.length_nil, List.length_append, List.length_map, tmodN, tdivN]); and_intros <;> first | exact True.intro | omega | skip) ?_
    exact ih (i + 1) _ _ (by first | exact True.intro | omega) (by omega) (by exact agree_cons rfl (by first | with_reducible rfl | (refine congrArg (AV.int _) ?_; (try simp only [wrap_i64', wrap_u8, wrap_u16, wrap_u32, wrap_u64, wrap_i32, List.length_cons, List.length_nil, List.length_append, List.length_map, tmodN, tdivN]); omega) | rfl | skip) (agree_cons rfl (by first | with_reducible rfl | (refine congrArg (AV.int _) ?_; (try simp only [wrap_i64', wrap_u8, wrap_u16, wrap_u32, wrap_u64, wrap_i32, List.length_cons, List.length_nil, List.length_append, List.length_map, tmodN, tdivN]); omega) | rfl | skip) (agree_cons rfl (by first | with_reducible rfl | (refine congrArg (AV.int _) ?_; (try simp only [wrap_i64', wrap_u8, wrap_u16, wrap_u32, wrap_u64, wrap_i32, List.length_cons, List.length_nil, List.length_append, List.length_map, tmodN, tdivN]); omega) | rfl | skip) (agree_cons rfl (by first | with_reducible rfl | (refine congrArg (AV.int _) ?_; (try simp only [wrap_i64', wrap_u8, wrap_u16, wrap_u32, wrap_u64, wrap_i32, List.length_cons, List.length_nil, List.length_append, List.length_map, tmodN, tdivN]); omega) | rfl | skip) (trivial))))) (by rw [put_val n i (by omega)]; simp only [Int.toNat_natCast, Nat.zero_add, Nat.mul_one]; exact congrArg (fun x => [x]) (putBlk_set n i (by omega)))
  · try simp only [decide_eq_true_eq, decide_eq_false_iff_not, notT, notF, beq_iff_eq, beq_eq_false_iff_ne, bne_iff_ne, bne_eq_false_iff_eq, tmodN, tdivN, Int.not_lt, Int.not_le] at g9
    refine Runs.exit rfl ?_
    refine Runs.seq ?_
    refine Runs.reg [] [0] rfl (by (try simp only [wrap_i64', wrap_u8, wrap_u16, wrap_u32, wrap_u64, wrap_i32, List.length_cons, List.length_nil, List.length_append, List.length_map, tmodN, tdivN]); and_intros <;> first | exact True.intro | omega | skip) ?_
    exact Runs.freezeB 2 (put64L n) rfl rfl (Nat.zero_le _) (Nat.le_refl _) (by simp [putBlk]) (put_done n i hi (by omega)) (Runs.drop 0 (Nat.le_refl _) rfl (Runs.retH Tryd.func21 rfl rfl rfl rfl))


def L64 : List UInt8 := [65, 66, 67, 68, 69, 70, 71, 72, 73, 74, 75, 76, 77, 78, 79, 80, 81, 82, 83, 84, 85, 86, 87, 88, 89, 90, 97, 98, 99, 100, 101, 102, 103, 104, 105, 106, 107, 108, 109, 110, 111, 112, 113, 114, 115, 116, 117, 118, 119, 120, 121, 122, 48, 49, 50, 51, 52, 53, 54, 55, 56, 57, 43, 47]
def c64 (i : Nat) : UInt8 := L64.getD i 0
def u24 (x y z : UInt8) : Nat := x.toNat * 65536 + y.toNat * 256 + z.toNat
def b64L : List UInt8 → List UInt8
  | [] => []
  | [x] => [c64 (u24 x 0 0 / 262144), c64 (u24 x 0 0 / 4096 % 64), 61, 61]
  | [x, y] => [c64 (u24 x y 0 / 262144), c64 (u24 x y 0 / 4096 % 64), c64 (u24 x y 0 / 64 % 64), 61]
  | x :: y :: z :: r => c64 (u24 x y z / 262144) :: c64 (u24 x y z / 4096 % 64) :: c64 (u24 x y z / 64 % 64) :: c64 (u24 x y z % 64) :: b64L r
theorem u24_lt (x y z : UInt8) : u24 x y z < 16777216 := by
  have := x.toNat_lt; have := y.toNat_lt; have := z.toNat_lt; unfold u24; omega
theorem or_u (x y z : UInt8) : bitsE .or .u64 (bitsE .or .u64 (IntKind.u64.wrap (IntKind.u64.wrap (x.toNat : Int) * 2 ^ min (Int.toNat 16) IntKind.u64.bits)) (IntKind.u64.wrap (IntKind.u64.wrap (y.toNat : Int) * 2 ^ min (Int.toNat 8) IntKind.u64.bits))) (IntKind.u64.wrap (z.toNat : Int)) = ((u24 x y z : Nat) : Int) := by
  have hx := x.toNat_lt; have hy := y.toNat_lt; have hz := z.toNat_lt
  have e0 : ∀ c : UInt8, IntKind.u64.wrap (c.toNat : Int) = (c.toNat : Int) := fun c => by have := c.toNat_lt; rw [wrap_u64]; omega
  rw [e0, e0, e0]
  have e1 : IntKind.u64.wrap ((x.toNat : Int) * 2 ^ min (Int.toNat 16) IntKind.u64.bits) = ((65536 * x.toNat : Nat) : Int) := by
    show IntKind.u64.wrap ((x.toNat : Int) * 65536) = _
    rw [wrap_u64]; omega
  have e2 : IntKind.u64.wrap ((y.toNat : Int) * 2 ^ min (Int.toNat 8) IntKind.u64.bits) = ((256 * y.toNat : Nat) : Int) := by
    show IntKind.u64.wrap ((y.toNat : Int) * 256) = _
    rw [wrap_u64]; omega
  rw [e1, e2, (Go.Am.bits_nat .u64 (a := 65536 * x.toNat) (b := 256 * y.toNat) (Nat.lt_trans (show 65536 * x.toNat < 16777216 by omega) (by decide)) (Nat.lt_trans (show 256 * y.toNat < 65536 by omega) (by decide)) rfl).2.1]
  have h1 := Nat.two_pow_add_eq_or_of_lt (i := 16) (b := 256 * y.toNat) (show 256 * y.toNat < 2 ^ 16 by omega) x.toNat
  rw [show (2 : Nat) ^ 16 = 65536 from rfl] at h1
  rw [← h1]
  rw [(Go.Am.bits_nat .u64 (a := 65536 * x.toNat + 256 * y.toNat) (b := z.toNat) (Nat.lt_trans (show 65536 * x.toNat + 256 * y.toNat < 16777216 by omega) (by decide)) (Nat.lt_trans hz (by decide)) rfl).2.1]
  have h2 := Nat.two_pow_add_eq_or_of_lt (i := 8) (b := z.toNat) hz (256 * x.toNat + y.toNat)
  rw [show (2 : Nat) ^ 8 = 256 from rfl] at h2
  rw [show 65536 * x.toNat + 256 * y.toNat = 256 * (256 * x.toNat + y.toNat) by omega, ← h2]
  unfold u24; omega
theorem sh18 (n : Nat) : (n : Int).fdiv (2 ^ min (Int.toNat 18) IntKind.u64.bits) = ((n / 262144 : Nat) : Int) := by
  show (n : Int).fdiv 262144 = _
  rw [Int.fdiv_eq_ediv_of_nonneg _ (by decide)]; rfl
theorem sh12 (n : Nat) : (n : Int).fdiv (2 ^ min (Int.toNat 12) IntKind.u64.bits) = ((n / 4096 : Nat) : Int) := by
  show (n : Int).fdiv 4096 = _
  rw [Int.fdiv_eq_ediv_of_nonneg _ (by decide)]; rfl
theorem sh6 (n : Nat) : (n : Int).fdiv (2 ^ min (Int.toNat 6) IntKind.u64.bits) = ((n / 64 : Nat) : Int) := by
  show (n : Int).fdiv 64 = _
  rw [Int.fdiv_eq_ediv_of_nonneg _ (by decide)]; rfl
theorem and63 {m : Nat} (h : m < 16777216) : bitsE .and .u64 (m : Int) 63 = ((m % 64 : Nat) : Int) := by
  have := (Go.Am.bits_nat .u64 (a := m) (b := 63) (Nat.lt_trans h (by decide)) (by decide) rfl).1
  rw [show ((63 : Nat) : Int) = 63 from rfl] at this
  rw [this, show m &&& 63 = m % 64 from Nat.and_two_pow_sub_one_eq_mod m 6]
theorem byteD (c : UInt8) : toB (c.toNat : Int) = c := by simp [toB]
theorem cp_le (n : Nat) : 0 + Nat.min n 3 * 1 ≤ 3 := by
  have h : Nat.min n 3 ≤ 3 := Nat.min_le_right n 3
  generalize Nat.min n 3 = m at h
  omega
theorem d3 (x y z : UInt8) (r : List UInt8) : List.drop (3 : Int).toNat (List.take (((x :: y :: z :: r).length : Nat) : Int).toNat (x :: y :: z :: r)) = r := by
  rw [Int.toNat_natCast, List.take_length]; rfl
theorem binj {a b : List UInt8} {o : Bool} (h : a = b) : AV.bs a o = AV.bs b o := by rw [h]
theorem cp3 (x y z : UInt8) (r : List UInt8) : putCells [.int .u8 0, .int .u8 0, .int .u8 0] 0 ((cpy (Nat.min (r.length + 1 + 1 + 1) 3) (byteEl (x :: y :: z :: r))).map un1) = [.int .u8 x.toNat, .int .u8 y.toNat, .int .u8 z.toNat] := by
  rw [show Nat.min (r.length + 1 + 1 + 1) 3 = 3 from Nat.min_eq_right (by omega)]; rfl
theorem mn3 (n : Nat) : ((Nat.min (n + 1 + 1 + 1) 3 : Nat) : Int) = 3 := by rw [show Nat.min (n + 1 + 1 + 1) 3 = 3 from Nat.min_eq_right (by omega)]; rfl
structure B64I (b rest out : List UInt8) : Prop where
  eq : out ++ b64L rest = b64L b
  le : out.length + 2 * rest.length ≤ 2 * b.length + 4
theorem b64_len : ∀ b : List UInt8, (b64L b).length = (b.length + 2) / 3 * 4
  | [] => rfl
  | [x] => by simp [b64L]
  | [x, y] => by simp [b64L]
  | x :: y :: z :: r => by simp [b64L, b64_len r]; omega

theorem base64_ok (b : List UInt8) (hb : b.length ≤ 16777216) : FnOK Tryd.prog 17 [.bs b false] [] (.str (b64L b)) [] := by
  refine FnOK.of_runs Tryd.func17 rfl (Nat.le_of_ble_eq_true rfl) ?_
  refine Runs.seq ?_
  refine Runs.reg [] [] rfl (by (try simp only [wrap_i64', wrap_u8, wrap_u16, wrap_u32, wrap_u64, wrap_i32, List.length_cons, List.length_nil, List.length_append, List.length_map, tmodN, tdivN]); and_intros <;> first | exact True.intro | omega | skip) ?_
  refine Runs.seq ?_
  refine Runs.reg [] [0] rfl (by rw [i64_id (x := (b.length : Int) + 2) (by omega) (by omega), show ((b.length : Int) + 2) = ((b.length + 2 : Nat) : Int) by omega, tdivN, i64_id (x := ((b.length + 2 : Nat) : Int) / 3) (by omega) (by omega), i64_id (by omega) (by omega)]; and_intros <;> first | exact True.intro | omega) ?_
  refine Runs.seq ?_
  refine Runs.block ?_
  -- loop 0
  refine Runs.loopF (σ := List UInt8 × List UInt8) (fun p => p.2 ++ b64L p.1 = b64L b) (fun p => [(0, .bs p.1 false), (3, .bs p.2 true)]) (fun _ => []) (fun p => p.1.length) ((b, [])) (by rfl) (by exact agree_cons rfl (by first | with_reducible rfl | (refine congrArg (AV.int _) ?_; (try simp only [wrap_i64', wrap_u8, wrap_u16, wrap_u32, wrap_u64, wrap_i32, List.length_cons, List.length_nil, List.length_append, List.length_map, tmodN, tdivN]); omega) | rfl | skip) (agree_cons rfl (by first | with_reducible rfl | (refine congrArg (AV.int _) ?_; (try simp only [wrap_i64', wrap_u8, wrap_u16, wrap_u32, wrap_u64, wrap_i32, List.length_cons, List.length_nil, List.length_append, List.length_map, tmodN, tdivN]); omega) | rfl | skip) (trivial))) (by rfl) (fun ⟨rest, out⟩ hi ih => ?_)
  replace hi : out ++ b64L rest = b64L b := hi; have hln := congrArg List.length hi; simp only [List.length_append, b64_len] at hln
  refine Runs.seq ?_
  refine Runs.seq ?_
  refine Runs.reg [] [0] rfl (by (try simp only [wrap_i64', wrap_u8, wrap_u16, wrap_u32, wrap_u64, wrap_i32, List.length_cons, List.length_nil, List.length_append, List.length_map, tmodN, tdivN]); and_intros <;> first | exact True.intro | omega | skip) ?_
  refine Runs.condS rfl (fun g17 => ?_) (fun g17 => ?_)
  · try simp only [decide_eq_true_eq, decide_eq_false_iff_not, notT, notF, beq_iff_eq, beq_eq_false_iff_ne, bne_iff_ne, bne_eq_false_iff_eq, tmodN, tdivN, Int.not_lt, Int.not_le] at g17
    refine Runs.skip ?_
    refine Runs.block ?_
    refine Runs.seq ?_
    refine Runs.reg [] [] rfl (by (try simp only [wrap_i64', wrap_u8, wrap_u16, wrap_u32, wrap_u64, wrap_i32, List.length_cons, List.length_nil, List.length_append, List.length_map, tmodN, tdivN]); and_intros <;> first | exact True.intro | omega | skip) ?_
    refine Runs.seq ?_
    rcases rest with _ | ⟨x, _ | ⟨y, _ | ⟨z, r⟩⟩⟩
    · (exfalso; simp at g17)
    · skip
      refine Runs.reg [] [1] rfl (by simp only [List.length_cons, List.length_nil, AV.cells, byteEl, isCell, List.all_cons, List.all_nil, Bool.and_self, implies_true]; and_intros <;> first | exact True.intro | omega | decide | exact cp_le _) ?_
      refine Runs.heap (H2 := [[.int .u8 x.toNat, .int .u8 (0 : UInt8).toNat, .int .u8 (0 : UInt8).toNat]]) (by rfl) ?_
      refine Runs.frame [(0, .bs ([x]) false), (3, .bs out true), (4, .ptr 0 0), (5, .int .i64 1)] (by exact agree_cons rfl (by rfl) (agree_cons rfl (by rfl) (agree_cons rfl (by rfl) (agree_cons rfl (by rfl) trivial)))) ?_
      refine Runs.seq ?_
      refine Runs.reg [] [0, 1] rfl (by (try simp only [wrap_i64', wrap_u8, wrap_u16, wrap_u32, wrap_u64, wrap_i32, List.length_cons, List.length_nil, List.length_append, List.length_map, tmodN, tdivN]); and_intros <;> first | exact True.intro | omega | skip) ?_
      refine Runs.seq ?_
      refine Runs.reg [] [] rfl (by (try simp only [wrap_i64', wrap_u8, wrap_u16, wrap_u32, wrap_u64, wrap_i32, List.length_cons, List.length_nil, List.length_append, List.length_map, tmodN, tdivN]); and_intros <;> first | exact True.intro | omega | skip) ?_
      refine Runs.frame [(0, .bs [] false), (3, .bs out true), (5, .int .i64 1), (6, .int .u64 (u24 x 0 0 : Nat))] (by exact agree_cons rfl (by rfl) (agree_cons rfl (by rfl) (agree_cons rfl (by rfl) (agree_cons rfl (by exact congrArg (AV.int _) (or_u _ _ _)) trivial)))) ?_
      have hu : u24 x 0 0 < 16777216 := u24_lt _ _ _
      refine Runs.seq ?_
      refine Runs.regD [] [0, 3, 7, 11] rfl rfl rfl (by rw [sh18, sh12, sh6, and63 (by omega), and63 (by omega), and63 (by omega)]; simp only [List.length_cons, List.length_nil]; and_intros <;> first | exact True.intro | omega | decide | exact Nat.le_refl _) ?_
      refine Runs.heap (H2 := [[.int .u8 x.toNat, .int .u8 (0 : UInt8).toNat, .int .u8 (0 : UInt8).toNat]] ++ [[.int .u8 (c64 (u24 x 0 0 / 262144)).toNat, .int .u8 (c64 (u24 x 0 0 / 4096 % 64)).toNat, .int .u8 (c64 (u24 x 0 0 / 64 % 64)).toNat, .int .u8 (c64 (u24 x 0 0 % 64)).toNat]]) (by rw [sh18, sh12, sh6, and63 (by omega), and63 (by omega), and63 (by omega)]; rfl) ?_
      refine Runs.frame [(0, .bs [] false), (3, .bs out true), (5, .int .i64 1), (7, .ptr 1 0)] (by exact agree_cons rfl (by rfl) (agree_cons rfl (by rfl) (agree_cons rfl (by rfl) (agree_cons rfl (by rfl) trivial)))) ?_
      refine Runs.seq ?_
      refine Runs.seq ?_
      refine Runs.reg [] [0] rfl (by (try simp only [wrap_i64', wrap_u8, wrap_u16, wrap_u32, wrap_u64, wrap_i32, List.length_cons, List.length_nil, List.length_append, List.length_map, tmodN, tdivN]); and_intros <;> first | exact True.intro | omega | skip) ?_
      refine Runs.block ?_
      refine Runs.loop ?_
      refine Runs.inLoop ?_
      refine Runs.seq ?_
      refine Runs.seq ?_
      refine Runs.reg [] [0] rfl (by (try simp only [wrap_i64', wrap_u8, wrap_u16, wrap_u32, wrap_u64, wrap_i32, List.length_cons, List.length_nil, List.length_append, List.length_map, tmodN, tdivN]); and_intros <;> first | exact True.intro | omega | skip) ?_
      refine Runs.condT rfl ?_
      refine Runs.skip ?_
      refine Runs.seq ?_
      refine Runs.block ?_
      refine Runs.reg [] [0] rfl (by simp only [List.length_set, List.length_cons, List.length_nil]; and_intros <;> first | exact True.intro | decide) ?_
      refine Runs.inBlock ?_
      refine Runs.reg [] [] rfl (by (try simp only [wrap_i64', wrap_u8, wrap_u16, wrap_u32, wrap_u64, wrap_i32, List.length_cons, List.length_nil, List.length_append, List.length_map, tmodN, tdivN]); and_intros <;> first | exact True.intro | omega | skip) ?_
      refine Runs.inLoop ?_
      refine Runs.seq ?_
      refine Runs.seq ?_
      refine Runs.reg [] [0] rfl (by (try simp only [wrap_i64', wrap_u8, wrap_u16, wrap_u32, wrap_u64, wrap_i32, List.length_cons, List.length_nil, List.length_append, List.length_map, tmodN, tdivN]); and_intros <;> first | exact True.intro | omega | skip) ?_
      refine Runs.condT rfl ?_
      refine Runs.skip ?_
      refine Runs.seq ?_
      refine Runs.block ?_
      refine Runs.reg [] [0] rfl (by simp only [List.length_set, List.length_cons, List.length_nil]; and_intros <;> first | exact True.intro | decide) ?_
      refine Runs.inBlock ?_
      refine Runs.reg [] [] rfl (by (try simp only [wrap_i64', wrap_u8, wrap_u16, wrap_u32, wrap_u64, wrap_i32, List.length_cons, List.length_nil, List.length_append, List.length_map, tmodN, tdivN]); and_intros <;> first | exact True.intro | omega | skip) ?_
      refine Runs.inLoop ?_
      refine Runs.seq ?_
      refine Runs.seq ?_
      refine Runs.reg [] [0] rfl (by (try simp only [wrap_i64', wrap_u8, wrap_u16, wrap_u32, wrap_u64, wrap_i32, List.length_cons, List.length_nil, List.length_append, List.length_map, tmodN, tdivN]); and_intros <;> first | exact True.intro | omega | skip) ?_
      refine Runs.condF rfl ?_
      refine Runs.exit rfl ?_
      refine Runs.reg [] [] rfl (by simp only [List.length_cons, List.length_nil] at hln; and_intros <;> first | exact True.intro | omega | decide | (intro z hz; simp only [List.mem_cons, List.not_mem_nil, or_false] at hz; rcases hz with rfl | rfl | rfl | rfl <;> first | exact u8b _ | decide)) ?_
      refine Runs.inBlock ?_
      refine Runs.drop 0 (Nat.le_refl _) rfl ?_
      exact ih ([], out ++ [c64 (u24 x 0 0 / 262144), c64 (u24 x 0 0 / 4096 % 64), 61, 61]) _ _ (by rw [← hi]; simp [b64L]) (by simp only [List.length_cons, List.length_nil]; omega) (by exact agree_cons rfl (by rfl) (agree_cons rfl (by exact binj (congrArg (out ++ ·) (by simp only [List.map_cons, List.map_nil, byteD] <;> rfl))) trivial)) (by rfl)
    · skip
      refine Runs.reg [] [1] rfl (by simp only [List.length_cons, List.length_nil, AV.cells, byteEl, isCell, List.all_cons, List.all_nil, Bool.and_self, implies_true]; and_intros <;> first | exact True.intro | omega | decide | exact cp_le _) ?_
      refine Runs.heap (H2 := [[.int .u8 x.toNat, .int .u8 y.toNat, .int .u8 (0 : UInt8).toNat]]) (by rfl) ?_
      refine Runs.frame [(0, .bs ([x, y]) false), (3, .bs out true), (4, .ptr 0 0), (5, .int .i64 2)] (by exact agree_cons rfl (by rfl) (agree_cons rfl (by rfl) (agree_cons rfl (by rfl) (agree_cons rfl (by rfl) trivial)))) ?_
      refine Runs.seq ?_
      refine Runs.reg [] [0, 1] rfl (by (try simp only [wrap_i64', wrap_u8, wrap_u16, wrap_u32, wrap_u64, wrap_i32, List.length_cons, List.length_nil, List.length_append, List.length_map, tmodN, tdivN]); and_intros <;> first | exact True.intro | omega | skip) ?_
      refine Runs.seq ?_
      refine Runs.reg [] [] rfl (by (try simp only [wrap_i64', wrap_u8, wrap_u16, wrap_u32, wrap_u64, wrap_i32, List.length_cons, List.length_nil, List.length_append, List.length_map, tmodN, tdivN]); and_intros <;> first | exact True.intro | omega | skip) ?_
      refine Runs.frame [(0, .bs [] false), (3, .bs out true), (5, .int .i64 2), (6, .int .u64 (u24 x y 0 : Nat))] (by exact agree_cons rfl (by rfl) (agree_cons rfl (by rfl) (agree_cons rfl (by rfl) (agree_cons rfl (by exact congrArg (AV.int _) (or_u _ _ _)) trivial)))) ?_
      have hu : u24 x y 0 < 16777216 := u24_lt _ _ _
      refine Runs.seq ?_
      refine Runs.regD [] [0, 3, 7, 11] rfl rfl rfl (by rw [sh18, sh12, sh6, and63 (by omega), and63 (by omega), and63 (by omega)]; simp only [List.length_cons, List.length_nil]; and_intros <;> first | exact True.intro | omega | decide | exact Nat.le_refl _) ?_
      refine Runs.heap (H2 := [[.int .u8 x.toNat, .int .u8 y.toNat, .int .u8 (0 : UInt8).toNat]] ++ [[.int .u8 (c64 (u24 x y 0 / 262144)).toNat, .int .u8 (c64 (u24 x y 0 / 4096 % 64)).toNat, .int .u8 (c64 (u24 x y 0 / 64 % 64)).toNat, .int .u8 (c64 (u24 x y 0 % 64)).toNat]]) (by rw [sh18, sh12, sh6, and63 (by omega), and63 (by omega), and63 (by omega)]; rfl) ?_
      refine Runs.frame [(0, .bs [] false), (3, .bs out true), (5, .int .i64 2), (7, .ptr 1 0)] (by exact agree_cons rfl (by rfl) (agree_cons rfl (by rfl) (agree_cons rfl (by rfl) (agree_cons rfl (by rfl) trivial)))) ?_
      refine Runs.seq ?_
      refine Runs.seq ?_
      refine Runs.reg [] [0] rfl (by (try simp only [wrap_i64', wrap_u8, wrap_u16, wrap_u32, wrap_u64, wrap_i32, List.length_cons, List.length_nil, List.length_append, List.length_map, tmodN, tdivN]); and_intros <;> first | exact True.intro | omega | skip) ?_
      refine Runs.block ?_
      refine Runs.loop ?_
      refine Runs.inLoop ?_
      refine Runs.seq ?_
      refine Runs.seq ?_
      refine Runs.reg [] [0] rfl (by (try simp only [wrap_i64', wrap_u8, wrap_u16, wrap_u32, wrap_u64, wrap_i32, List.length_cons, List.length_nil, List.length_append, List.length_map, tmodN, tdivN]); and_intros <;> first | exact True.intro | omega | skip) ?_
      refine Runs.condT rfl ?_
      refine Runs.skip ?_
      refine Runs.seq ?_
      refine Runs.block ?_
      refine Runs.reg [] [0] rfl (by simp only [List.length_set, List.length_cons, List.length_nil]; and_intros <;> first | exact True.intro | decide) ?_
      refine Runs.inBlock ?_
      refine Runs.reg [] [] rfl (by (try simp only [wrap_i64', wrap_u8, wrap_u16, wrap_u32, wrap_u64, wrap_i32, List.length_cons, List.length_nil, List.length_append, List.length_map, tmodN, tdivN]); and_intros <;> first | exact True.intro | omega | skip) ?_
      refine Runs.inLoop ?_
      refine Runs.seq ?_
      refine Runs.seq ?_
      refine Runs.reg [] [0] rfl (by (try simp only [wrap_i64', wrap_u8, wrap_u16, wrap_u32, wrap_u64, wrap_i32, List.length_cons, List.length_nil, List.length_append, List.length_map, tmodN, tdivN]); and_intros <;> first | exact True.intro | omega | skip) ?_
      refine Runs.condF rfl ?_
      refine Runs.exit rfl ?_
      refine Runs.reg [] [] rfl (by simp only [List.length_cons, List.length_nil] at hln; and_intros <;> first | exact True.intro | omega | decide | (intro z hz; simp only [List.mem_cons, List.not_mem_nil, or_false] at hz; rcases hz with rfl | rfl | rfl | rfl <;> first | exact u8b _ | decide)) ?_
      refine Runs.inBlock ?_
      refine Runs.drop 0 (Nat.le_refl _) rfl ?_
      exact ih ([], out ++ [c64 (u24 x y 0 / 262144), c64 (u24 x y 0 / 4096 % 64), c64 (u24 x y 0 / 64 % 64), 61]) _ _ (by rw [← hi]; simp [b64L]) (by simp only [List.length_cons, List.length_nil]; omega) (by exact agree_cons rfl (by rfl) (agree_cons rfl (by exact binj (congrArg (out ++ ·) (by simp only [List.map_cons, List.map_nil, byteD] <;> rfl))) trivial)) (by rfl)
    · skip
      refine Runs.reg [] [1] rfl (by simp only [List.length_cons, List.length_nil, AV.cells, byteEl, isCell, List.all_cons, List.all_nil, Bool.and_self, implies_true]; and_intros <;> first | exact True.intro | omega | decide | exact cp_le _) ?_
      refine Runs.heap (H2 := [[.int .u8 x.toNat, .int .u8 y.toNat, .int .u8 z.toNat]]) (by exact congrArg (fun x => [x]) (cp3 x y z r)) ?_
      refine Runs.frame [(0, .bs (x :: y :: z :: r) false), (3, .bs out true), (4, .ptr 0 0), (5, .int .i64 3)] (by exact agree_cons rfl (by rfl) (agree_cons rfl (by rfl) (agree_cons rfl (by rfl) (agree_cons rfl (by exact congrArg (AV.int _) (mn3 r.length)) trivial)))) ?_
      refine Runs.seq ?_
      refine Runs.reg [] [0, 1] rfl (by (try simp only [wrap_i64', wrap_u8, wrap_u16, wrap_u32, wrap_u64, wrap_i32, List.length_cons, List.length_nil, List.length_append, List.length_map, tmodN, tdivN]); and_intros <;> first | exact True.intro | omega | skip) ?_
      refine Runs.seq ?_
      refine Runs.reg [] [] rfl (by (try simp only [wrap_i64', wrap_u8, wrap_u16, wrap_u32, wrap_u64, wrap_i32, List.length_cons, List.length_nil, List.length_append, List.length_map, tmodN, tdivN]); and_intros <;> first | exact True.intro | omega | skip) ?_
      refine Runs.frame [(0, .bs r false), (3, .bs out true), (5, .int .i64 3), (6, .int .u64 (u24 x y z : Nat))] (by exact agree_cons rfl (by exact binj (d3 x y z r)) (agree_cons rfl (by rfl) (agree_cons rfl (by rfl) (agree_cons rfl (by exact congrArg (AV.int _) (or_u _ _ _)) trivial)))) ?_
      have hu : u24 x y z < 16777216 := u24_lt _ _ _
      refine Runs.seq ?_
      refine Runs.regD [] [0, 3, 7, 11] rfl rfl rfl (by rw [sh18, sh12, sh6, and63 (by omega), and63 (by omega), and63 (by omega)]; simp only [List.length_cons, List.length_nil]; and_intros <;> first | exact True.intro | omega | decide | exact Nat.le_refl _) ?_
      refine Runs.heap (H2 := [[.int .u8 x.toNat, .int .u8 y.toNat, .int .u8 z.toNat]] ++ [[.int .u8 (c64 (u24 x y z / 262144)).toNat, .int .u8 (c64 (u24 x y z / 4096 % 64)).toNat, .int .u8 (c64 (u24 x y z / 64 % 64)).toNat, .int .u8 (c64 (u24 x y z % 64)).toNat]]) (by rw [sh18, sh12, sh6, and63 (by omega), and63 (by omega), and63 (by omega)]; rfl) ?_
      refine Runs.frame [(0, .bs r false), (3, .bs out true), (5, .int .i64 3), (7, .ptr 1 0)] (by exact agree_cons rfl (by rfl) (agree_cons rfl (by rfl) (agree_cons rfl (by rfl) (agree_cons rfl (by rfl) trivial)))) ?_
      refine Runs.seq ?_
      refine Runs.seq ?_
      refine Runs.reg [] [0] rfl (by (try simp only [wrap_i64', wrap_u8, wrap_u16, wrap_u32, wrap_u64, wrap_i32, List.length_cons, List.length_nil, List.length_append, List.length_map, tmodN, tdivN]); and_intros <;> first | exact True.intro | omega | skip) ?_
      refine Runs.block ?_
      refine Runs.loop ?_
      refine Runs.inLoop ?_
      refine Runs.seq ?_
      refine Runs.seq ?_
      refine Runs.reg [] [0] rfl (by (try simp only [wrap_i64', wrap_u8, wrap_u16, wrap_u32, wrap_u64, wrap_i32, List.length_cons, List.length_nil, List.length_append, List.length_map, tmodN, tdivN]); and_intros <;> first | exact True.intro | omega | skip) ?_
      refine Runs.condF rfl ?_
      refine Runs.exit rfl ?_
      refine Runs.reg [] [] rfl (by simp only [List.length_cons, List.length_nil] at hln; and_intros <;> first | exact True.intro | omega | decide | (intro z hz; simp only [List.mem_cons, List.not_mem_nil, or_false] at hz; rcases hz with rfl | rfl | rfl | rfl <;> first | exact u8b _ | decide)) ?_
      refine Runs.inBlock ?_
      refine Runs.drop 0 (Nat.le_refl _) rfl ?_
      exact ih (r, out ++ [c64 (u24 x y z / 262144), c64 (u24 x y z / 4096 % 64), c64 (u24 x y z / 64 % 64), c64 (u24 x y z % 64)]) _ _ (by rw [← hi]; simp [b64L]) (by simp only [List.length_cons, List.length_nil]; omega) (by exact agree_cons rfl (by rfl) (agree_cons rfl (by exact binj (congrArg (out ++ ·) (by simp only [List.map_cons, List.map_nil, byteD] <;> rfl))) trivial)) (by rfl)
  · try simp only [decide_eq_true_eq, decide_eq_false_iff_not, notT, notF, beq_iff_eq, beq_eq_false_iff_ne, bne_iff_ne, bne_eq_false_iff_eq, tmodN, tdivN, Int.not_lt, Int.not_le] at g17
    refine Runs.exit rfl ?_
    refine Runs.seq ?_
    refine Runs.reg [] [0] rfl (by (try simp only [wrap_i64', wrap_u8, wrap_u16, wrap_u32, wrap_u64, wrap_i32, List.length_cons, List.length_nil, List.length_append, List.length_map, tmodN, tdivN]); and_intros <;> first | exact True.intro | omega | skip) ?_
    exact Runs.retH Tryd.func17 rfl rfl (by have := List.eq_nil_of_length_eq_zero (show rest.length = 0 by omega); subst this; simpa [b64L] using hi) (by rfl)


theorem el2 {a b : Nat → AV} (h0 : a 0 = b 0) (h1 : a 1 = b 1) (i : Nat) (h : i < 2) : a i = b i := by
  rcases (show i = 0 ∨ i = 1 by omega) with rfl | rfl
  · exact h0
  · exact h1

theorem awake1_ok : FnOK Tryd.prog 13 [] [] (.bool true) [] := by
  refine FnOK.of_runs Tryd.func13 rfl (Nat.le_of_ble_eq_true rfl) ?_
  refine Runs.seq ?_
  refine Runs.reg [] [] rfl (by (try simp only [wrap_i64', wrap_u8, wrap_u16, wrap_u32, wrap_u64, wrap_i32, List.length_cons, List.length_nil, List.length_append, List.length_map, tmodN, tdivN]); and_intros <;> first | exact True.intro | omega | skip) ?_
  refine Runs.seq ?_
  refine Runs.reg [(0, { res := .tup [.bs [10, 255] false, .bool true] })] [] rfl (by and_intros <;> first | exact True.intro | exact unhex_ok [48, 97, 102, 102] (by decide)) ?_
  refine Runs.seq ?_
  refine Runs.reg [(0, { res := .tup [.int .i64 42, .bool true] })] [] rfl (by and_intros <;> first | exact True.intro | exact int_ok [52, 50] (by decide)) ?_
  refine Runs.seq ?_
  refine Runs.region ?_
  refine Runs.restTo 2 [(22, { res := .str (b64L [77, 97, 110]) }), (27, { res := .bs [0, 0, 0, 2, 97, 98, 0, 0, 0, 0] false }), (32, { res := .bs [0, 0, 0, 0, 0, 0, 0, 1] false })] [0, 2, 5, 10, 16] rfl (by and_intros <;> first | exact True.intro | decide | exact base64_ok [77, 97, 110] (by decide) | exact put64_ok 1 (by decide) | exact (pack_ok [[97, 98], []] false (by decide) (by decide)).arg ⟨⟨Imp.sl (m := 2) (by intro i hi; exact el2 (by rfl) (by rfl) i hi), rfl, rfl⟩, True.intro⟩) ?_
  refine Runs.splitS 14 rfl (fun g14 => ?_) (fun g14 => ?_)
  · try simp only [decide_eq_true_eq, decide_eq_false_iff_not, notT, notF, beq_iff_eq, beq_eq_false_iff_ne, bne_iff_ne, bne_eq_false_iff_eq, tmodN, tdivN, Int.not_lt, Int.not_le] at g14
    refine Runs.restTo 3 [(22, { res := .str (b64L [77, 97, 110]) }), (27, { res := .bs [0, 0, 0, 2, 97, 98, 0, 0, 0, 0] false }), (32, { res := .bs [0, 0, 0, 0, 0, 0, 0, 1] false })] [0, 2, 5, 10, 16] rfl (by and_intros <;> first | exact True.intro | decide | exact base64_ok [77, 97, 110] (by decide) | exact put64_ok 1 (by decide) | exact (pack_ok [[97, 98], []] false (by decide) (by decide)).arg ⟨⟨Imp.sl (m := 2) (by intro i hi; exact el2 (by rfl) (by rfl) i hi), rfl, rfl⟩, True.intro⟩) ?_
    refine Runs.splitS 17 rfl (fun g17 => ?_) (fun g17 => ?_)
    · try simp only [decide_eq_true_eq, decide_eq_false_iff_not, notT, notF, beq_iff_eq, beq_eq_false_iff_ne, bne_iff_ne, bne_eq_false_iff_eq, tmodN, tdivN, Int.not_lt, Int.not_le] at g17
      refine Runs.restTo 5 [(22, { res := .str (b64L [77, 97, 110]) }), (27, { res := .bs [0, 0, 0, 2, 97, 98, 0, 0, 0, 0] false }), (32, { res := .bs [0, 0, 0, 0, 0, 0, 0, 1] false })] [0, 2, 5, 10, 16] rfl (by and_intros <;> first | exact True.intro | decide | exact base64_ok [77, 97, 110] (by decide) | exact put64_ok 1 (by decide) | exact (pack_ok [[97, 98], []] false (by decide) (by decide)).arg ⟨⟨Imp.sl (m := 2) (by intro i hi; exact el2 (by rfl) (by rfl) i hi), rfl, rfl⟩, True.intro⟩) ?_
      refine Runs.splitS 22 rfl (fun g22 => ?_) (fun g22 => ?_)
      · try simp only [decide_eq_true_eq, decide_eq_false_iff_not, notT, notF, beq_iff_eq, beq_eq_false_iff_ne, bne_iff_ne, bne_eq_false_iff_eq, tmodN, tdivN, Int.not_lt, Int.not_le] at g22
        refine Runs.restTo 6 [(22, { res := .str (b64L [77, 97, 110]) }), (27, { res := .bs [0, 0, 0, 2, 97, 98, 0, 0, 0, 0] false }), (32, { res := .bs [0, 0, 0, 0, 0, 0, 0, 1] false })] [0, 2, 5, 10, 16] rfl (by and_intros <;> first | exact True.intro | decide | exact base64_ok [77, 97, 110] (by decide) | exact put64_ok 1 (by decide) | exact (pack_ok [[97, 98], []] false (by decide) (by decide)).arg ⟨⟨Imp.sl (m := 2) (by intro i hi; exact el2 (by rfl) (by rfl) i hi), rfl, rfl⟩, True.intro⟩) ?_
        refine Runs.splitS 28 rfl (fun g28 => ?_) (fun g28 => ?_)
        · try simp only [decide_eq_true_eq, decide_eq_false_iff_not, notT, notF, beq_iff_eq, beq_eq_false_iff_ne, bne_iff_ne, bne_eq_false_iff_eq, tmodN, tdivN, Int.not_lt, Int.not_le] at g28
          refine Runs.restTo 4 [(22, { res := .str (b64L [77, 97, 110]) }), (27, { res := .bs [0, 0, 0, 2, 97, 98, 0, 0, 0, 0] false }), (32, { res := .bs [0, 0, 0, 0, 0, 0, 0, 1] false })] [0, 2, 5, 10, 16] rfl (by and_intros <;> first | exact True.intro | decide | exact base64_ok [77, 97, 110] (by decide) | exact put64_ok 1 (by decide) | exact (pack_ok [[97, 98], []] false (by decide) (by decide)).arg ⟨⟨Imp.sl (m := 2) (by intro i hi; exact el2 (by rfl) (by rfl) i hi), rfl, rfl⟩, True.intro⟩) ?_
          refine Runs.splitS 32 rfl (fun g32 => ?_) (fun g32 => ?_)
          · try simp only [decide_eq_true_eq, decide_eq_false_iff_not, notT, notF, beq_iff_eq, beq_eq_false_iff_ne, bne_iff_ne, bne_eq_false_iff_eq, tmodN, tdivN, Int.not_lt, Int.not_le] at g32
            refine Runs.litConv rfl rfl rfl rfl rfl rfl rfl rfl rfl rfl rfl rfl rfl rfl (by simp) ?_
            refine Runs.restTo 4 [(22, { res := .str (b64L [77, 97, 110]) }), (27, { res := .bs [0, 0, 0, 2, 97, 98, 0, 0, 0, 0] false }), (32, { res := .bs [0, 0, 0, 0, 0, 0, 0, 1] false })] [0, 2, 5, 10, 16] rfl (by and_intros <;> first | exact True.intro | decide | exact base64_ok [77, 97, 110] (by decide) | exact put64_ok 1 (by decide) | exact (pack_ok [[97, 98], []] false (by decide) (by decide)).arg ⟨⟨Imp.sl (m := 2) (by intro i hi; exact el2 (by rfl) (by rfl) i hi), rfl, rfl⟩, True.intro⟩) ?_
            refine Runs.splitS 38 rfl (fun g38 => ?_) (fun g38 => ?_)
            · try simp only [decide_eq_true_eq, decide_eq_false_iff_not, notT, notF, beq_iff_eq, beq_eq_false_iff_ne, bne_iff_ne, bne_eq_false_iff_eq, tmodN, tdivN, Int.not_lt, Int.not_le] at g38
              refine Runs.restTo 6 [(22, { res := .str (b64L [77, 97, 110]) }), (27, { res := .bs [0, 0, 0, 2, 97, 98, 0, 0, 0, 0] false }), (32, { res := .bs [0, 0, 0, 0, 0, 0, 0, 1] false })] [0, 2, 5, 10, 16] rfl (by and_intros <;> first | exact True.intro | decide | exact base64_ok [77, 97, 110] (by decide) | exact put64_ok 1 (by decide) | exact (pack_ok [[97, 98], []] false (by decide) (by decide)).arg ⟨⟨Imp.sl (m := 2) (by intro i hi; exact el2 (by rfl) (by rfl) i hi), rfl, rfl⟩, True.intro⟩) ?_
              refine Runs.splitS 44 rfl (fun g44 => ?_) (fun g44 => ?_)
              · try simp only [decide_eq_true_eq, decide_eq_false_iff_not, notT, notF, beq_iff_eq, beq_eq_false_iff_ne, bne_iff_ne, bne_eq_false_iff_eq, tmodN, tdivN, Int.not_lt, Int.not_le] at g44
                refine Runs.rest [(22, { res := .str (b64L [77, 97, 110]) }), (27, { res := .bs [0, 0, 0, 2, 97, 98, 0, 0, 0, 0] false }), (32, { res := .bs [0, 0, 0, 0, 0, 0, 0, 1] false })] [0, 2, 5, 10, 16] rfl (by and_intros <;> first | exact True.intro | decide | exact base64_ok [77, 97, 110] (by decide) | exact put64_ok 1 (by decide) | exact (pack_ok [[97, 98], []] false (by decide) (by decide)).arg ⟨⟨Imp.sl (m := 2) (by intro i hi; exact el2 (by rfl) (by rfl) i hi), rfl, rfl⟩, True.intro⟩) ?_
                exact Runs.retH Tryd.func13 rfl rfl (by rfl) (by rfl)
              · try simp only [decide_eq_true_eq, decide_eq_false_iff_not, notT, notF, beq_iff_eq, beq_eq_false_iff_ne, bne_iff_ne, bne_eq_false_iff_eq, tmodN, tdivN, Int.not_lt, Int.not_le] at g44
                exact absurd g44 (by decide)
            · try simp only [decide_eq_true_eq, decide_eq_false_iff_not, notT, notF, beq_iff_eq, beq_eq_false_iff_ne, bne_iff_ne, bne_eq_false_iff_eq, tmodN, tdivN, Int.not_lt, Int.not_le] at g38
              exact absurd g38 (by decide)
          · try simp only [decide_eq_true_eq, decide_eq_false_iff_not, notT, notF, beq_iff_eq, beq_eq_false_iff_ne, bne_iff_ne, bne_eq_false_iff_eq, tmodN, tdivN, Int.not_lt, Int.not_le] at g32
            exact absurd g32 (by decide)
        · try simp only [decide_eq_true_eq, decide_eq_false_iff_not, notT, notF, beq_iff_eq, beq_eq_false_iff_ne, bne_iff_ne, bne_eq_false_iff_eq, tmodN, tdivN, Int.not_lt, Int.not_le] at g28
          exact absurd g28 (by decide)
      · try simp only [decide_eq_true_eq, decide_eq_false_iff_not, notT, notF, beq_iff_eq, beq_eq_false_iff_ne, bne_iff_ne, bne_eq_false_iff_eq, tmodN, tdivN, Int.not_lt, Int.not_le] at g22
        exact absurd g22 (by decide)
    · try simp only [decide_eq_true_eq, decide_eq_false_iff_not, notT, notF, beq_iff_eq, beq_eq_false_iff_ne, bne_iff_ne, bne_eq_false_iff_eq, tmodN, tdivN, Int.not_lt, Int.not_le] at g17
      exact absurd g17 (by decide)
  · try simp only [decide_eq_true_eq, decide_eq_false_iff_not, notT, notF, beq_iff_eq, beq_eq_false_iff_ne, bne_iff_ne, bne_eq_false_iff_eq, tmodN, tdivN, Int.not_lt, Int.not_le] at g14
    exact absurd g14 (by decide)


theorem same_ok (a b : List UInt8) (o1 o2 : Bool) : FnOK Tryd.prog 22 [.bs a o1, .bs b o2] [] (.bool (a == b)) [] := by
  refine FnOK.of_runs Tryd.func22 rfl (Nat.le_of_ble_eq_true rfl) ?_
  refine Runs.seq ?_
  refine Runs.reg [] [] rfl (by (try simp only [wrap_i64', wrap_u8, wrap_u16, wrap_u32, wrap_u64, wrap_i32, List.length_cons, List.length_nil, List.length_append, List.length_map, tmodN, tdivN]); and_intros <;> first | exact True.intro | omega | skip) ?_
  refine Runs.seq ?_
  refine Runs.reg [] [0, 2] rfl (by (try simp only [wrap_i64', wrap_u8, wrap_u16, wrap_u32, wrap_u64, wrap_i32, List.length_cons, List.length_nil, List.length_append, List.length_map, tmodN, tdivN]); and_intros <;> first | exact True.intro | omega | skip) ?_
  exact Runs.retH Tryd.func22 rfl rfl (by first | with_reducible rfl | (refine congrArg (AV.int _) ?_; (try simp only [wrap_i64', wrap_u8, wrap_u16, wrap_u32, wrap_u64, wrap_i32, List.length_cons, List.length_nil, List.length_append, List.length_map, tmodN, tdivN]); omega) | rfl | skip) (by rfl)


theorem shr24u (n : Nat) : (n : Int).fdiv (2 ^ min (Int.toNat 24) IntKind.u32.bits) = ((n / 16777216 : Nat) : Int) := by
  show (n : Int).fdiv 16777216 = _
  rw [Int.fdiv_eq_ediv_of_nonneg _ (by decide)]; rfl
theorem shr16u (n : Nat) : (n : Int).fdiv (2 ^ min (Int.toNat 16) IntKind.u32.bits) = ((n / 65536 : Nat) : Int) := by
  show (n : Int).fdiv 65536 = _
  rw [Int.fdiv_eq_ediv_of_nonneg _ (by decide)]; rfl
theorem shr8u (n : Nat) : (n : Int).fdiv (2 ^ min (Int.toNat 8) IntKind.u32.bits) = ((n / 256 : Nat) : Int) := by
  show (n : Int).fdiv 256 = _
  rw [Int.fdiv_eq_ediv_of_nonneg _ (by decide)]; rfl
theorem shr32u (n : Nat) : (n : Int).fdiv (2 ^ min (Int.toNat 32) IntKind.u64.bits) = ((n / 4294967296 : Nat) : Int) := by
  show (n : Int).fdiv 4294967296 = _
  rw [Int.fdiv_eq_ediv_of_nonneg _ (by decide)]; rfl
theorem u32mod (n : Nat) : IntKind.u32.wrap (n : Int) = ((n % 4294967296 : Nat) : Int) := by rw [wrap_u32]; omega
theorem put_be4 (n : Nat) (h : n < 18446744073709551616) : be4 (n / 4294967296 % 4294967296) ++ be4 (n % 4294967296) = put64L n := by
  have e : put64L n = [UInt8.ofNat (n / 72057594037927936), UInt8.ofNat (n / 281474976710656), UInt8.ofNat (n / 1099511627776), UInt8.ofNat (n / 4294967296), UInt8.ofNat (n / 16777216), UInt8.ofNat (n / 65536), UInt8.ofNat (n / 256), UInt8.ofNat (n / 1)] := rfl
  rw [e]
  have c : ∀ a b : Nat, a % 256 = b % 256 → UInt8.ofNat a = UInt8.ofNat b := fun a b h => by
    apply UInt8.toNat_inj.1
    simpa using h
  simp only [be4, List.cons_append, List.nil_append]
  rw [c _ (n / 72057594037927936) (by omega), c (n / 4294967296 % 4294967296 / 65536) (n / 281474976710656) (by omega), c (n / 4294967296 % 4294967296 / 256) (n / 1099511627776) (by omega), c (n / 4294967296 % 4294967296) (n / 4294967296) (by omega),
    c (n % 4294967296 / 16777216) (n / 16777216) (by omega), c (n % 4294967296 / 65536) (n / 65536) (by omega), c (n % 4294967296 / 256) (n / 256) (by omega), c (n % 4294967296) (n / 1) (by omega)]
structure SmI (a b : List (List UInt8)) (i : Nat) : Prop where
  le : i ≤ a.length
  len : a.length = b.length
  eq : a.take i = b.take i
theorem sm_len {a b : List (List UInt8)} (h : (a.length : Int) ≠ (b.length : Int)) : (a == b) = false := by
  rw [beq_eq_false_iff_ne]
  rintro rfl
  exact h rfl
theorem SmI.ne {a b i} (h : SmI a b i) (hi : i < a.length) (hn : a.getD i [] ≠ b.getD i []) : (a == b) = false := by
  rw [beq_eq_false_iff_ne]
  rintro rfl
  exact hn rfl
theorem SmI.step {a b i} (h : SmI a b i) (hi : i < a.length) (hn : a.getD i [] = b.getD i []) : SmI a b (i + 1) := by
  have := h.len
  exact ⟨by omega, h.len, by rw [take_succ' a i [] hi, take_succ' b i [] (by omega), h.eq, hn]⟩
theorem SmI.done {a b i} (h : SmI a b i) (hi : a.length ≤ i) : (a == b) = true := by
  have h1 := h.eq
  have := h.len
  rw [List.take_of_length_le hi, List.take_of_length_le (by omega)] at h1
  rw [h1]; simp

theorem sameTexts_ok (a b : List (List UInt8)) (ha : a.length ≤ 16777216) (hb : b.length ≤ 16777216) : FnOK Tryd.prog 23 [.sl 1 a.length (strEl a) false, .sl 1 b.length (strEl b) false] [] (.bool (a == b)) [] := by
  refine FnOK.of_runs Tryd.func23 rfl (Nat.le_of_ble_eq_true rfl) ?_
  refine Runs.seq ?_
  refine Runs.reg [] [] rfl (by (try simp only [wrap_i64', wrap_u8, wrap_u16, wrap_u32, wrap_u64, wrap_i32, List.length_cons, List.length_nil, List.length_append, List.length_map, tmodN, tdivN]); and_intros <;> first | exact True.intro | omega | skip) ?_
  refine Runs.seq ?_
  refine Runs.seq ?_
  refine Runs.reg [] [0, 2] rfl (by (try simp only [wrap_i64', wrap_u8, wrap_u16, wrap_u32, wrap_u64, wrap_i32, List.length_cons, List.length_nil, List.length_append, List.length_map, tmodN, tdivN]); and_intros <;> first | exact True.intro | omega | skip) ?_
  refine Runs.condS rfl (fun g10 => ?_) (fun g10 => ?_)
  · try simp only [decide_eq_true_eq, decide_eq_false_iff_not, notT, notF, beq_iff_eq, beq_eq_false_iff_ne, bne_iff_ne, bne_eq_false_iff_eq, tmodN, tdivN, Int.not_lt, Int.not_le] at g10
    refine Runs.seq ?_
    refine Runs.reg [] [] rfl (by (try simp only [wrap_i64', wrap_u8, wrap_u16, wrap_u32, wrap_u64, wrap_i32, List.length_cons, List.length_nil, List.length_append, List.length_map, tmodN, tdivN]); and_intros <;> first | exact True.intro | omega | skip) ?_
    exact Runs.retH Tryd.func23 rfl rfl (by rw [sm_len g10]) (by rfl)
  · try simp only [decide_eq_true_eq, decide_eq_false_iff_not, notT, notF, beq_iff_eq, beq_eq_false_iff_ne, bne_iff_ne, bne_eq_false_iff_eq, tmodN, tdivN, Int.not_lt, Int.not_le] at g10
    refine Runs.skip ?_
    refine Runs.seq ?_
    refine Runs.seq ?_
    refine Runs.reg [] [] rfl (by (try simp only [wrap_i64', wrap_u8, wrap_u16, wrap_u32, wrap_u64, wrap_i32, List.length_cons, List.length_nil, List.length_append, List.length_map, tmodN, tdivN]); and_intros <;> first | exact True.intro | omega | skip) ?_
    refine Runs.block ?_
    -- loop 0
    refine Runs.loopF (σ := Nat) (fun i => SmI a b i) (fun i => [(0, .sl 1 a.length (strEl a) false), (1, .sl 1 b.length (strEl b) false), (5, .int .i64 i)]) (fun _ => []) (fun i => a.length - i) (0) (by exact ⟨Nat.zero_le _, by omega, rfl⟩) (by exact agree_cons rfl (by first | with_reducible rfl | (refine congrArg (AV.int _) ?_; (try simp only [wrap_i64', wrap_u8, wrap_u16, wrap_u32, wrap_u64, wrap_i32, List.length_cons, List.length_nil, List.length_append, List.length_map, tmodN, tdivN]); omega) | rfl | skip) (agree_cons rfl (by first | with_reducible rfl | (refine congrArg (AV.int _) ?_; (try simp only [wrap_i64', wrap_u8, wrap_u16, wrap_u32, wrap_u64, wrap_i32, List.length_cons, List.length_nil, List.length_append, List.length_map, tmodN, tdivN]); omega) | rfl | skip) (agree_cons rfl (by first | with_reducible rfl | (refine congrArg (AV.int _) ?_; (try simp only [wrap_i64', wrap_u8, wrap_u16, wrap_u32, wrap_u64, wrap_i32, List.length_cons, List.length_nil, List.length_append, List.length_map, tmodN, tdivN]); omega) | rfl | skip) (trivial)))) (by rfl) (fun i hi ih => ?_)
    have hle := hi.le; have hln := hi.len
    refine Runs.seq ?_
    refine Runs.seq ?_
    refine Runs.reg [] [0, 1] rfl (by (try simp only [wrap_i64', wrap_u8, wrap_u16, wrap_u32, wrap_u64, wrap_i32, List.length_cons, List.length_nil, List.length_append, List.length_map, tmodN, tdivN]); and_intros <;> first | exact True.intro | omega | skip) ?_
    refine Runs.condS rfl (fun g14 => ?_) (fun g14 => ?_)
    · try simp only [decide_eq_true_eq, decide_eq_false_iff_not, notT, notF, beq_iff_eq, beq_eq_false_iff_ne, bne_iff_ne, bne_eq_false_iff_eq, tmodN, tdivN, Int.not_lt, Int.not_le] at g14
      refine Runs.skip ?_
      refine Runs.seq ?_
      refine Runs.block ?_
      refine Runs.seq ?_
      refine Runs.regD [] [0, 1, 4, 5] rfl rfl rfl (by (try simp only [wrap_i64', wrap_u8, wrap_u16, wrap_u32, wrap_u64, wrap_i32, List.length_cons, List.length_nil, List.length_append, List.length_map, tmodN, tdivN]); and_intros <;> first | exact True.intro | omega | skip) ?_
      refine Runs.condS rfl (fun g25 => ?_) (fun g25 => ?_)
      · try simp only [decide_eq_true_eq, decide_eq_false_iff_not, notT, notF, beq_iff_eq, beq_eq_false_iff_ne, bne_iff_ne, bne_eq_false_iff_eq, tmodN, tdivN, Int.not_lt, Int.not_le] at g25
        refine Runs.seq ?_
        refine Runs.reg [] [] rfl (by (try simp only [wrap_i64', wrap_u8, wrap_u16, wrap_u32, wrap_u64, wrap_i32, List.length_cons, List.length_nil, List.length_append, List.length_map, tmodN, tdivN]); and_intros <;> first | exact True.intro | omega | skip) ?_
        exact Runs.retH Tryd.func23 rfl rfl (by rw [hi.ne (by omega) (by simpa using g25)]) (by rfl)
      · try simp only [decide_eq_true_eq, decide_eq_false_iff_not, notT, notF, beq_iff_eq, beq_eq_false_iff_ne, bne_iff_ne, bne_eq_false_iff_eq, tmodN, tdivN, Int.not_lt, Int.not_le] at g25
        refine Runs.skip ?_
        refine Runs.inBlock ?_
        refine Runs.reg [] [] rfl (by (try simp only [wrap_i64', wrap_u8, wrap_u16, wrap_u32, wrap_u64, wrap_i32, List.length_cons, List.length_nil, List.length_append, List.length_map, tmodN, tdivN]); and_intros <;> first | exact True.intro | omega | skip) ?_
        exact ih (i + 1) _ _ (by exact hi.step (by omega) (by simpa using g25)) (by omega) (by exact agree_cons rfl (by first | with_reducible rfl | (refine congrArg (AV.int _) ?_; (try simp only [wrap_i64', wrap_u8, wrap_u16, wrap_u32, wrap_u64, wrap_i32, List.length_cons, List.length_nil, List.length_append, List.length_map, tmodN, tdivN]); omega) | rfl | skip) (agree_cons rfl (by first | with_reducible rfl | (refine congrArg (AV.int _) ?_; (try simp only [wrap_i64', wrap_u8, wrap_u16, wrap_u32, wrap_u64, wrap_i32, List.length_cons, List.length_nil, List.length_append, List.length_map, tmodN, tdivN]); omega) | rfl | skip) (agree_cons rfl (by first | with_reducible rfl | (refine congrArg (AV.int _) ?_; (try simp only [wrap_i64', wrap_u8, wrap_u16, wrap_u32, wrap_u64, wrap_i32, List.length_cons, List.length_nil, List.length_append, List.length_map, tmodN, tdivN]); omega) | rfl | skip) (trivial)))) (by rfl)
    · try simp only [decide_eq_true_eq, decide_eq_false_iff_not, notT, notF, beq_iff_eq, beq_eq_false_iff_ne, bne_iff_ne, bne_eq_false_iff_eq, tmodN, tdivN, Int.not_lt, Int.not_le] at g14
      refine Runs.exit rfl ?_
      refine Runs.seq ?_
      refine Runs.reg [] [] rfl (by (try simp only [wrap_i64', wrap_u8, wrap_u16, wrap_u32, wrap_u64, wrap_i32, List.length_cons, List.length_nil, List.length_append, List.length_map, tmodN, tdivN]); and_intros <;> first | exact True.intro | omega | skip) ?_
      exact Runs.retH Tryd.func23 rfl rfl (by rw [hi.done (by omega)]) (by rfl)


def n64 (b : List UInt8) : Nat := b.foldl (fun n c => n * 256 + c.toNat) 0
def get64 (b : List UInt8) : Option Nat := if b.length = 8 then some (n64 b) else none
theorem n64_snoc (b : List UInt8) (c : UInt8) : n64 (b ++ [c]) = n64 b * 256 + c.toNat := by simp [n64]
theorem n64_lt : ∀ (i : Nat) (b : List UInt8), b.length = i → n64 b < 256 ^ i := by
  intro i
  induction i with
  | zero => intro b h; rw [List.eq_nil_of_length_eq_zero h]; decide
  | succ i ih =>
    intro b h
    obtain ⟨r, c, rfl⟩ : ∃ r c, b = r ++ [c] := ⟨b.dropLast, b.getLast (by intro e; rw [e] at h; simp at h), (List.dropLast_concat_getLast _).symm⟩
    simp at h
    have := ih r h
    have := c.toNat_lt
    rw [n64_snoc, Nat.pow_succ]; omega
theorem n64_take_lt (b : List UInt8) (i : Nat) (h : i < 8) : n64 (b.take i) < 72057594037927936 := by
  have h1 := n64_lt (b.take i).length (b.take i) rfl
  exact Nat.lt_of_lt_of_le h1 (Nat.pow_le_pow_right (n := 256) (by decide) (show (b.take i).length ≤ 7 by simp; omega))
theorem get_or (m : Nat) (c : UInt8) (h : m < 72057594037927936) : bitsE .or .u64 (IntKind.u64.wrap ((m : Int) * 2 ^ min (Int.toNat 8) IntKind.u64.bits)) (IntKind.u64.wrap (c.toNat : Int)) = ((m * 256 + c.toNat : Nat) : Int) := by
  have hc := c.toNat_lt
  have e1 : IntKind.u64.wrap ((m : Int) * 2 ^ min (Int.toNat 8) IntKind.u64.bits) = ((256 * m : Nat) : Int) := by
    show IntKind.u64.wrap ((m : Int) * 256) = _
    rw [wrap_u64]; omega
  have e2 : IntKind.u64.wrap (c.toNat : Int) = (c.toNat : Int) := by rw [wrap_u64]; omega
  rw [e1, e2, (Go.Am.bits_nat .u64 (a := 256 * m) (b := c.toNat) (show 256 * m < 18446744073709551616 by omega) (Nat.lt_trans hc (by decide)) rfl).2.1]
  have h2 := Nat.two_pow_add_eq_or_of_lt (i := 8) (b := c.toNat) hc m
  rw [show (2 : Nat) ^ 8 = 256 from rfl] at h2
  rw [← h2, Nat.mul_comm]
theorem get_add (m : Nat) (c : UInt8) (h : m < 72057594037927936) : IntKind.u64.wrap (IntKind.u64.wrap (256 * (m : Int)) + IntKind.u64.wrap (c.toNat : Int)) = ((m * 256 + c.toNat : Nat) : Int) := by
  have hc := c.toNat_lt
  rw [wrap_u64, wrap_u64, wrap_u64]; omega
theorem n64_step (b : List UInt8) (i : Nat) (h : i < b.length) : n64 (b.take i) * 256 + (b.getD (i : Int).toNat 0).toNat = n64 (b.take (i + 1)) := by
  rw [take_succ' b i 0 h, n64_snoc, Int.toNat_natCast]
theorem get_none {b : List UInt8} (h : (b.length : Int) ≠ 8) : get64 b = none := by unfold get64; rw [if_neg (by omega)]
theorem get_some {b : List UInt8} {i : Nat} (h : (b.length : Int) = 8) (hi : 8 ≤ i) : get64 b = some (n64 (b.take i)) := by unfold get64; rw [if_pos (by omega), List.take_of_length_le (by omega)]
theorem iinj {a b : Int} {k : IntKind} (h : a = b) : AV.int k a = AV.int k b := by rw [h]

theorem get64_ok (b : List UInt8) (hb : b.length ≤ 16777216) : FnOK Tryd.prog 20 [.bs b false] [] (.tup [.int .u64 ((get64 b).getD 0 : Nat), .bool (get64 b).isSome]) [] := by
  refine FnOK.of_runs Tryd.func20 rfl (Nat.le_of_ble_eq_true rfl) ?_
  refine Runs.seq ?_
  refine Runs.reg [] [] rfl (by (try simp only [wrap_i64', wrap_u8, wrap_u16, wrap_u32, wrap_u64, wrap_i32, List.length_cons, List.length_nil, List.length_append, List.length_map, tmodN, tdivN]); and_intros <;> first | exact True.intro | omega | skip) ?_
  refine Runs.seq ?_
  refine Runs.seq ?_
  refine Runs.reg [] [0] rfl (by (try simp only [wrap_i64', wrap_u8, wrap_u16, wrap_u32, wrap_u64, wrap_i32, List.length_cons, List.length_nil, List.length_append, List.length_map, tmodN, tdivN]); and_intros <;> first | exact True.intro | omega | skip) ?_
  refine Runs.condS rfl (fun g9 => ?_) (fun g9 => ?_)
  · try simp only [decide_eq_true_eq, decide_eq_false_iff_not, notT, notF, beq_iff_eq, beq_eq_false_iff_ne, bne_iff_ne, bne_eq_false_iff_eq, tmodN, tdivN, Int.not_lt, Int.not_le] at g9
    refine Runs.seq ?_
    refine Runs.reg [] [] rfl (by (try simp only [wrap_i64', wrap_u8, wrap_u16, wrap_u32, wrap_u64, wrap_i32, List.length_cons, List.length_nil, List.length_append, List.length_map, tmodN, tdivN]); and_intros <;> first | exact True.intro | omega | skip) ?_
    exact Runs.retH Tryd.func20 rfl rfl (by rw [get_none g9]; rfl) (by rfl)
  · try simp only [decide_eq_true_eq, decide_eq_false_iff_not, notT, notF, beq_iff_eq, beq_eq_false_iff_ne, bne_iff_ne, bne_eq_false_iff_eq, tmodN, tdivN, Int.not_lt, Int.not_le] at g9
    refine Runs.skip ?_
    refine Runs.seq ?_
    refine Runs.reg [] [] rfl (by (try simp only [wrap_i64', wrap_u8, wrap_u16, wrap_u32, wrap_u64, wrap_i32, List.length_cons, List.length_nil, List.length_append, List.length_map, tmodN, tdivN]); and_intros <;> first | exact True.intro | omega | skip) ?_
    refine Runs.seq ?_
    refine Runs.seq ?_
    refine Runs.reg [] [0] rfl (by (try simp only [wrap_i64', wrap_u8, wrap_u16, wrap_u32, wrap_u64, wrap_i32, List.length_cons, List.length_nil, List.length_append, List.length_map, tmodN, tdivN]); and_intros <;> first | exact True.intro | omega | skip) ?_
    refine Runs.block ?_
    -- loop 0
    refine Runs.loopF (σ := Nat) (fun i => i ≤ 8) (fun i => [(4, .int .u64 (n64 (b.take i) : Nat)), (10, .bs b false), (11, .int .i64 b.length), (12, .int .i64 i)]) (fun _ => []) (fun i => 8 - i) (0) (by exact Nat.zero_le _) (by exact agree_cons rfl (by first | with_reducible rfl | (refine congrArg (AV.int _) ?_; (try simp only [wrap_i64', wrap_u8, wrap_u16, wrap_u32, wrap_u64, wrap_i32, List.length_cons, List.length_nil, List.length_append, List.length_map, tmodN, tdivN]); omega) | rfl | skip) (agree_cons rfl (by first | with_reducible rfl | (refine congrArg (AV.int _) ?_; (try simp only [wrap_i64', wrap_u8, wrap_u16, wrap_u32, wrap_u64, wrap_i32, List.length_cons, List.length_nil, List.length_append, List.length_map, tmodN, tdivN]); omega) | rfl | skip) (agree_cons rfl (by first | with_reducible rfl | (refine congrArg (AV.int _) ?_; (try simp only [wrap_i64', wrap_u8, wrap_u16, wrap_u32, wrap_u64, wrap_i32, List.length_cons, List.length_nil, List.length_append, List.length_map, tmodN, tdivN]); omega) | rfl | skip) (agree_cons rfl (by first | with_reducible rfl | (refine congrArg (AV.int _) ?_; (try simp only [wrap_i64', wrap_u8, wrap_u16, wrap_u32, wrap_u64, wrap_i32, List.length_cons, List.length_nil, List.length_append, List.length_map, tmodN, tdivN]); omega) | rfl | skip) (trivial))))) (by rfl) (fun i hi ih => ?_)
    have hle : i ≤ 8 := hi
    refine Runs.seq ?_
    refine Runs.reg [] [] rfl (by (try simp only [wrap_i64', wrap_u8, wrap_u16, wrap_u32, wrap_u64, wrap_i32, List.length_cons, List.length_nil, List.length_append, List.length_map, tmodN, tdivN]); and_intros <;> first | exact True.intro | omega | skip) ?_
    refine Runs.seq ?_
    refine Runs.condS rfl (fun g13 => ?_) (fun g13 => ?_)
    · try simp only [decide_eq_true_eq, decide_eq_false_iff_not, notT, notF, beq_iff_eq, beq_eq_false_iff_ne, bne_iff_ne, bne_eq_false_iff_eq, tmodN, tdivN, Int.not_lt, Int.not_le] at g13
      refine Runs.skip ?_
      refine Runs.seq ?_
      refine Runs.block ?_
      refine Runs.seq ?_
      refine Runs.reg [] [] rfl (by (try simp only [wrap_i64', wrap_u8, wrap_u16, wrap_u32, wrap_u64, wrap_i32, List.length_cons, List.length_nil, List.length_append, List.length_map, tmodN, tdivN]); and_intros <;> first | exact True.intro | omega | skip) ?_
      refine Runs.reg [] [2] rfl (by (try simp only [wrap_i64', wrap_u8, wrap_u16, wrap_u32, wrap_u64, wrap_i32, List.length_cons, List.length_nil, List.length_append, List.length_map, tmodN, tdivN]); and_intros <;> first | exact True.intro | omega | skip) ?_
      refine Runs.inBlock ?_
      refine Runs.reg [] [] rfl (by (try simp only [wrap_i64', wrap_u8, wrap_u16, wrap_u32, wrap_u64, wrap_i32, List.length_cons, List.length_nil, List.length_append, List.length_map, tmodN, tdivN]); and_intros <;> first | exact True.intro | omega | skip) ?_
      exact ih (i + 1) _ _ (by first | exact True.intro | omega) (by omega) (by exact agree_cons rfl (by rw [get_or _ _ (n64_take_lt b i (by omega)), n64_step b i (by omega)]) (agree_cons rfl (by first | with_reducible rfl | (refine congrArg (AV.int _) ?_; (try simp only [wrap_i64', wrap_u8, wrap_u16, wrap_u32, wrap_u64, wrap_i32, List.length_cons, List.length_nil, List.length_append, List.length_map, tmodN, tdivN]); omega) | rfl | skip) (agree_cons rfl (by first | with_reducible rfl | (refine congrArg (AV.int _) ?_; (try simp only [wrap_i64', wrap_u8, wrap_u16, wrap_u32, wrap_u64, wrap_i32, List.length_cons, List.length_nil, List.length_append, List.length_map, tmodN, tdivN]); omega) | rfl | skip) (agree_cons rfl (by first | with_reducible rfl | (refine congrArg (AV.int _) ?_; (try simp only [wrap_i64', wrap_u8, wrap_u16, wrap_u32, wrap_u64, wrap_i32, List.length_cons, List.length_nil, List.length_append, List.length_map, tmodN, tdivN]); omega) | rfl | skip) (trivial))))) (by rfl)
    · try simp only [decide_eq_true_eq, decide_eq_false_iff_not, notT, notF, beq_iff_eq, beq_eq_false_iff_ne, bne_iff_ne, bne_eq_false_iff_eq, tmodN, tdivN, Int.not_lt, Int.not_le] at g13
      refine Runs.exit rfl ?_
      refine Runs.seq ?_
      refine Runs.reg [] [0] rfl (by (try simp only [wrap_i64', wrap_u8, wrap_u16, wrap_u32, wrap_u64, wrap_i32, List.length_cons, List.length_nil, List.length_append, List.length_map, tmodN, tdivN]); and_intros <;> first | exact True.intro | omega | skip) ?_
      exact Runs.retH Tryd.func20 rfl rfl (by rw [get_some (i := i) (by omega) (by omega)]; rfl) (by rfl)


def num4 (b : List UInt8) : Nat := (b.getD 0 0).toNat * 16777216 + (b.getD 1 0).toNat * 65536 + (b.getD 2 0).toNat * 256 + (b.getD 3 0).toNat
def unp : Nat → List UInt8 → Option (List (List UInt8))
  | 0, _ => some []
  | k + 1, b => if b.length = 0 then some [] else if b.length < 4 then none else if b.length - 4 < num4 b then none else (unp k (b.drop (4 + num4 b))).map ((b.drop 4).take (num4 b) :: ·)
def unpackL (b : List UInt8) : Option (List (List UInt8)) := unp b.length b
theorem num4_lt (b : List UInt8) : num4 b < 4294967296 := by
  have := (b.getD 0 0).toNat_lt; have := (b.getD 1 0).toNat_lt; have := (b.getD 2 0).toNat_lt; have := (b.getD 3 0).toNat_lt
  unfold num4; omega
structure UpI (b rest : List UInt8) (out : List (List UInt8)) (k : Nat) : Prop where
  le : rest.length ≤ k
  sum : out.length + rest.length ≤ b.length
  eq : unpackL b = (unp k rest).map (out ++ ·)
theorem UpI.start (b : List UInt8) : UpI b b [] b.length := ⟨Nat.le_refl _, by simp, by simp [unpackL]⟩
theorem UpI.done {b rest out k} (h : UpI b rest out k) (hr : rest.length = 0) : unpackL b = some out := by
  rw [h.eq]
  cases k with
  | zero => simp [unp]
  | succ k => rw [unp, if_pos hr]; simp
theorem UpI.short {b rest out k} (h : UpI b rest out k) (h0 : 0 < rest.length) (h4 : rest.length < 4) : unpackL b = none := by
  have := h.le
  rw [h.eq]
  obtain ⟨k, rfl⟩ : ∃ j, k = j + 1 := ⟨k - 1, by omega⟩
  rw [unp, if_neg (by omega), if_pos h4]; rfl
theorem UpI.far {b rest out k} (h : UpI b rest out k) (h4 : 4 ≤ rest.length) (hn : rest.length - 4 < num4 rest) : unpackL b = none := by
  have := h.le
  rw [h.eq]
  obtain ⟨k, rfl⟩ : ∃ j, k = j + 1 := ⟨k - 1, by omega⟩
  rw [unp, if_neg (by omega), if_neg (by omega), if_pos hn]; rfl
theorem UpI.step {b rest out k} (h : UpI b rest out k) (h4 : 4 ≤ rest.length) (hn : num4 rest ≤ rest.length - 4) : UpI b (rest.drop (4 + num4 rest)) (out ++ [(rest.drop 4).take (num4 rest)]) (k - 1) := by
  have h1 := h.le; have h2 := h.sum
  refine ⟨by rw [List.length_drop]; omega, by simp; omega, ?_⟩
  rw [h.eq]
  obtain ⟨k, rfl⟩ : ∃ j, k = j + 1 := ⟨k - 1, by omega⟩
  rw [unp, if_neg (by omega), if_neg (by omega), if_neg (by omega), Nat.add_sub_cancel, Option.map_map]
  congr 1
  funext l
  simp
theorem or_i64 {a b : Nat} (ha : a < 4611686018427387904) (hb : b < 4611686018427387904) : bitsE .or .i64 (a : Int) (b : Int) = ((a ||| b : Nat) : Int) := by
  have e : ∀ x : Nat, x < 4611686018427387904 → (BitVec.ofInt IntKind.i64.bits (x : Int)).toNat = x := by
    intro x hx
    rw [BitVec.toNat_ofInt]
    have : ((x : Int) % ((2 ^ IntKind.i64.bits : Nat) : Int)) = (x : Int) := Int.emod_eq_of_lt (Int.natCast_nonneg _) (by show (x : Int) < 18446744073709551616; omega)
    rw [this]; simp
  have hlt : a ||| b < 2 ^ 62 := Nat.or_lt_two_pow ha hb
  simp only [bitsE]
  rw [BitVec.toNat_or, e a ha, e b hb, i64_id (by omega) (by omega)]
theorem w8 (c : UInt8) : IntKind.i64.wrap (c.toNat : Int) = (c.toNat : Int) := by have := c.toNat_lt; rw [i64_id (by omega) (by omega)]
theorem up_or (b : List UInt8) : bitsE .or .i64 (bitsE .or .i64 (bitsE .or .i64 (IntKind.i64.wrap (IntKind.i64.wrap ((b.getD 0 0).toNat : Int) * 2 ^ min (Int.toNat 24) IntKind.i64.bits)) (IntKind.i64.wrap (IntKind.i64.wrap ((b.getD 1 0).toNat : Int) * 2 ^ min (Int.toNat 16) IntKind.i64.bits))) (IntKind.i64.wrap (IntKind.i64.wrap ((b.getD 2 0).toNat : Int) * 2 ^ min (Int.toNat 8) IntKind.i64.bits))) (IntKind.i64.wrap ((b.getD 3 0).toNat : Int)) = ((num4 b : Nat) : Int) := by
  unfold num4
  generalize b.getD 0 0 = x
  generalize b.getD 1 0 = y
  generalize b.getD 2 0 = z
  generalize b.getD 3 0 = t
  have hx := x.toNat_lt; have hy := y.toNat_lt; have hz := z.toNat_lt; have ht := t.toNat_lt
  rw [w8, w8, w8, w8]
  have e1 : IntKind.i64.wrap ((x.toNat : Int) * 2 ^ min (Int.toNat 24) IntKind.i64.bits) = ((16777216 * x.toNat : Nat) : Int) := by
    show IntKind.i64.wrap ((x.toNat : Int) * 16777216) = _
    rw [i64_id (by omega) (by omega)]; omega
  have e2 : IntKind.i64.wrap ((y.toNat : Int) * 2 ^ min (Int.toNat 16) IntKind.i64.bits) = ((65536 * y.toNat : Nat) : Int) := by
    show IntKind.i64.wrap ((y.toNat : Int) * 65536) = _
    rw [i64_id (by omega) (by omega)]; omega
  have e3 : IntKind.i64.wrap ((z.toNat : Int) * 2 ^ min (Int.toNat 8) IntKind.i64.bits) = ((256 * z.toNat : Nat) : Int) := by
    show IntKind.i64.wrap ((z.toNat : Int) * 256) = _
    rw [i64_id (by omega) (by omega)]; omega
  have h1 := Nat.two_pow_add_eq_or_of_lt (i := 24) (b := 65536 * y.toNat) (show 65536 * y.toNat < 2 ^ 24 by omega) x.toNat
  rw [show (2 : Nat) ^ 24 = 16777216 from rfl] at h1
  have h2 := Nat.two_pow_add_eq_or_of_lt (i := 16) (b := 256 * z.toNat) (show 256 * z.toNat < 2 ^ 16 by omega) (256 * x.toNat + y.toNat)
  rw [show (2 : Nat) ^ 16 = 65536 from rfl] at h2
  have h3 := Nat.two_pow_add_eq_or_of_lt (i := 8) (b := t.toNat) ht (65536 * x.toNat + 256 * y.toNat + z.toNat)
  rw [show (2 : Nat) ^ 8 = 256 from rfl] at h3
  rw [e1, e2, e3, or_i64 (by omega) (by omega), ← h1, or_i64 (by omega) (by omega), show 16777216 * x.toNat + 65536 * y.toNat = 65536 * (256 * x.toNat + y.toNat) by omega, ← h2, or_i64 (by omega) (by omega),
    show 65536 * (256 * x.toNat + y.toNat) + 256 * z.toNat = 256 * (65536 * x.toNat + 256 * y.toNat + z.toNat) by omega, ← h3]
  omega
theorem up_drop (rest : List UInt8) (n : Nat) (h : n < 4294967296) : List.drop (IntKind.i64.wrap (4 + (n : Int))).toNat (List.take ((rest.length : Nat) : Int).toNat rest) = rest.drop (4 + n) := by
  rw [i64_id (by omega) (by omega), Int.toNat_natCast, List.take_length, show (4 + (n : Int)).toNat = 4 + n by omega]
theorem up_take (rest : List UInt8) (n : Nat) (h : n < 4294967296) (h2 : n ≤ rest.length) : List.drop (Int.toNat 4) (List.take (IntKind.i64.wrap (4 + (n : Int))).toNat rest) = (rest.drop 4).take n := by
  rw [i64_id (by omega) (by omega), show (4 + (n : Int)).toNat = 4 + n by omega, show Int.toNat 4 = 4 from rfl, List.drop_take]
  congr 1; omega
theorem gd_drop (b : List UInt8) (i j : Nat) : (b.drop i).getD j 0 = b.getD (i + j) 0 := by simp [List.getD_eq_getElem?_getD]
theorem ix (i j : Nat) (h : i ≤ 16777216) (hj : j ≤ 8) : (IntKind.i64.wrap ((i : Int) + (j : Int))).toNat = i + j := by rw [i64_id (by omega) (by omega)]; omega
theorem up_add (b : List UInt8) (i : Nat) (h : i ≤ 16777216) : IntKind.i64.wrap (IntKind.i64.wrap (IntKind.i64.wrap (IntKind.i64.wrap (IntKind.i64.wrap ((b.getD (i : Int).toNat 0).toNat : Int) * 2 ^ min (Int.toNat 24) IntKind.i64.bits) + IntKind.i64.wrap (IntKind.i64.wrap ((b.getD (IntKind.i64.wrap ((i : Int) + 1)).toNat 0).toNat : Int) * 2 ^ min (Int.toNat 16) IntKind.i64.bits)) + IntKind.i64.wrap (IntKind.i64.wrap ((b.getD (IntKind.i64.wrap ((i : Int) + 2)).toNat 0).toNat : Int) * 2 ^ min (Int.toNat 8) IntKind.i64.bits)) + IntKind.i64.wrap ((b.getD (IntKind.i64.wrap ((i : Int) + 3)).toNat 0).toNat : Int)) = ((num4 (b.drop i) : Nat) : Int) := by
  unfold num4
  rw [gd_drop, gd_drop, gd_drop, gd_drop]
  have e1 := ix i 1 h (by decide)
  have e2 := ix i 2 h (by decide)
  have e3 := ix i 3 h (by decide)
  rw [show ((1 : Nat) : Int) = 1 from rfl] at e1
  rw [show ((2 : Nat) : Int) = 2 from rfl] at e2
  rw [show ((3 : Nat) : Int) = 3 from rfl] at e3
  rw [e1, e2, e3, Int.toNat_natCast, Nat.add_zero]
  generalize b.getD i 0 = x
  generalize b.getD (i + 1) 0 = y
  generalize b.getD (i + 2) 0 = z
  generalize b.getD (i + 3) 0 = t
  have hx := x.toNat_lt; have hy := y.toNat_lt; have hz := z.toNat_lt; have ht := t.toNat_lt
  rw [w8, w8, w8, w8]
  have f1 : IntKind.i64.wrap ((x.toNat : Int) * 2 ^ min (Int.toNat 24) IntKind.i64.bits) = ((16777216 * x.toNat : Nat) : Int) := by
    show IntKind.i64.wrap ((x.toNat : Int) * 16777216) = _
    rw [i64_id (by omega) (by omega)]; omega
  have f2 : IntKind.i64.wrap ((y.toNat : Int) * 2 ^ min (Int.toNat 16) IntKind.i64.bits) = ((65536 * y.toNat : Nat) : Int) := by
    show IntKind.i64.wrap ((y.toNat : Int) * 65536) = _
    rw [i64_id (by omega) (by omega)]; omega
  have f3 : IntKind.i64.wrap ((z.toNat : Int) * 2 ^ min (Int.toNat 8) IntKind.i64.bits) = ((256 * z.toNat : Nat) : Int) := by
    show IntKind.i64.wrap ((z.toNat : Int) * 256) = _
    rw [i64_id (by omega) (by omega)]; omega
  rw [f1, f2, f3, i64_id (x := ((16777216 * x.toNat : Nat) : Int) + ((65536 * y.toNat : Nat) : Int)) (by omega) (by omega), i64_id (x := ((16777216 * x.toNat : Nat) : Int) + ((65536 * y.toNat : Nat) : Int) + ((256 * z.toNat : Nat) : Int)) (by omega) (by omega), i64_id (by omega) (by omega)]
  omega
theorem up_cut (b : List UInt8) (i n : Nat) (h : i ≤ 16777220) (hn : n < 4294967296) : List.drop ((i + 4 : Nat) : Int).toNat (List.take (IntKind.i64.wrap (((i + 4 : Nat) : Int) + (n : Int))).toNat b) = ((b.drop i).drop 4).take n := by
  rw [i64_id (by omega) (by omega), show (((i + 4 : Nat) : Int) + (n : Int)).toNat = i + 4 + n by omega, Int.toNat_natCast, List.drop_take, List.drop_drop]
  congr 1; omega
theorem strs_app (out : List (List UInt8)) (x : List UInt8) (o : Bool) : Imp (.sl 1 (out.length + 1) (apEl out.length (strEl out) (elOf false 1 [.str x])) o) (.sl 1 (out ++ [x]).length (strEl (out ++ [x])) o) := by
  refine Imp.slEq (by simp) fun i hi => ?_
  rcases Nat.lt_or_ge i out.length with h | h
  · rw [apEl_lt h]
    simp [List.getD_eq_getElem?_getD, List.getElem?_append_left h]
  · have : i = out.length := by omega
    subst this
    rw [apEl_ge h]
    simp [elOf, List.getD_eq_getElem?_getD]

theorem unpack_ok (b : List UInt8) (hb : b.length ≤ 16777216) : FnOK Tryd.prog 18 [.bs b false] [] (.tup [.sl 1 ((unpackL b).getD []).length (strEl ((unpackL b).getD [])) false, .bool (unpackL b).isSome]) [] := by
  refine FnOK.of_runs Tryd.func18 rfl (Nat.le_of_ble_eq_true rfl) ?_
  refine Runs.seq ?_
  refine Runs.reg [] [] rfl (by (try simp only [wrap_i64', wrap_u8, wrap_u16, wrap_u32, wrap_u64, wrap_i32, List.length_cons, List.length_nil, List.length_append, List.length_map, tmodN, tdivN]); and_intros <;> first | exact True.intro | omega | skip) ?_
  refine Runs.seq ?_
  refine Runs.reg [] [] rfl (by (try simp only [wrap_i64', wrap_u8, wrap_u16, wrap_u32, wrap_u64, wrap_i32, List.length_cons, List.length_nil, List.length_append, List.length_map, tmodN, tdivN]); and_intros <;> first | exact True.intro | omega | skip) ?_
  refine Runs.seq ?_
  refine Runs.block ?_
  -- loop 0
  refine Runs.loopF (σ := List UInt8 × List (List UInt8) × Nat) (fun p => UpI b p.1 p.2.1 p.2.2) (fun p => [(0, .bs p.1 false), (4, .sl 1 p.2.1.length (strEl p.2.1) true)]) (fun _ => []) (fun p => p.1.length) ((b, [], b.length)) (by exact UpI.start b) (by exact agree_cons rfl (by first | with_reducible rfl | (refine congrArg (AV.int _) ?_; (try simp only [wrap_i64', wrap_u8, wrap_u16, wrap_u32, wrap_u64, wrap_i32, List.length_cons, List.length_nil, List.length_append, List.length_map, tmodN, tdivN]); omega) | rfl | skip) (agree_imp rfl (by exact Imp.slEq rfl (fun i hi => absurd hi (Nat.not_lt_zero _))) rfl rfl (trivial))) (by rfl) (fun ⟨rest, out, k⟩ hi ih => ?_)
  replace hi : UpI b rest out k := hi; have hle := hi.sum; have hnl := num4_lt rest; dsimp only
  refine Runs.seq ?_
  refine Runs.seq ?_
  refine Runs.reg [] [0] rfl (by (try simp only [wrap_i64', wrap_u8, wrap_u16, wrap_u32, wrap_u64, wrap_i32, List.length_cons, List.length_nil, List.length_append, List.length_map, tmodN, tdivN]); and_intros <;> first | exact True.intro | omega | skip) ?_
  refine Runs.condS rfl (fun g8 => ?_) (fun g8 => ?_)
  · try simp only [decide_eq_true_eq, decide_eq_false_iff_not, notT, notF, beq_iff_eq, beq_eq_false_iff_ne, bne_iff_ne, bne_eq_false_iff_eq, tmodN, tdivN, Int.not_lt, Int.not_le] at g8
    refine Runs.skip ?_
    refine Runs.block ?_
    refine Runs.seq ?_
    refine Runs.seq ?_
    refine Runs.reg [] [0] rfl (by (try simp only [wrap_i64', wrap_u8, wrap_u16, wrap_u32, wrap_u64, wrap_i32, List.length_cons, List.length_nil, List.length_append, List.length_map, tmodN, tdivN]); and_intros <;> first | exact True.intro | omega | skip) ?_
    refine Runs.condS rfl (fun g11 => ?_) (fun g11 => ?_)
    · try simp only [decide_eq_true_eq, decide_eq_false_iff_not, notT, notF, beq_iff_eq, beq_eq_false_iff_ne, bne_iff_ne, bne_eq_false_iff_eq, tmodN, tdivN, Int.not_lt, Int.not_le] at g11
      refine Runs.seq ?_
      refine Runs.reg [] [] rfl (by (try simp only [wrap_i64', wrap_u8, wrap_u16, wrap_u32, wrap_u64, wrap_i32, List.length_cons, List.length_nil, List.length_append, List.length_map, tmodN, tdivN]); and_intros <;> first | exact True.intro | omega | skip) ?_
      exact Runs.frame [(2, .sl 1 0 (strEl []) true), (3, .bool false)] (by exact agree_imp rfl (by exact Imp.slEq rfl (fun i hi => absurd hi (Nat.not_lt_zero _))) rfl rfl (agree_cons rfl (by rfl) trivial)) (Runs.retH Tryd.func18 rfl rfl (by rw [hi.short (by omega) (by omega)]; rfl) (by rfl))
    · try simp only [decide_eq_true_eq, decide_eq_false_iff_not, notT, notF, beq_iff_eq, beq_eq_false_iff_ne, bne_iff_ne, bne_eq_false_iff_eq, tmodN, tdivN, Int.not_lt, Int.not_le] at g11
      refine Runs.skip ?_
      refine Runs.seq ?_
      refine Runs.regD [] [0, 5, 11, 17] rfl rfl rfl (by and_intros <;> first | exact True.intro | omega | decide) ?_
      refine Runs.frame [(0, .bs rest false), (4, .sl 1 out.length (strEl out) true), (5, .int .i64 (num4 rest : Nat))] (by exact agree_cons rfl (by rfl) (agree_cons rfl (by rfl) (agree_cons rfl (by exact congrArg (AV.int _) (up_or rest)) trivial))) ?_
      refine Runs.seq ?_
      refine Runs.seq ?_
      refine Runs.reg [] [0, 1] rfl (by and_intros <;> first | exact True.intro | omega | decide) ?_
      refine Runs.condS rfl (fun g38 => ?_) (fun g38 => ?_)
      · try simp only [decide_eq_true_eq, decide_eq_false_iff_not, notT, notF, beq_iff_eq, beq_eq_false_iff_ne, bne_iff_ne, bne_eq_false_iff_eq, tmodN, tdivN, Int.not_lt, Int.not_le] at g38
        rw [i64_id (by omega) (by omega)] at g38
        refine Runs.seq ?_
        refine Runs.reg [] [] rfl (by (try simp only [wrap_i64', wrap_u8, wrap_u16, wrap_u32, wrap_u64, wrap_i32, List.length_cons, List.length_nil, List.length_append, List.length_map, tmodN, tdivN]); and_intros <;> first | exact True.intro | omega | skip) ?_
        exact Runs.frame [(2, .sl 1 0 (strEl []) true), (3, .bool false)] (by exact agree_imp rfl (by exact Imp.slEq rfl (fun i hi => absurd hi (Nat.not_lt_zero _))) rfl rfl (agree_cons rfl (by rfl) trivial)) (Runs.retH Tryd.func18 rfl rfl (by rw [hi.far (by omega) (by omega)]; rfl) (by rfl))
      · try simp only [decide_eq_true_eq, decide_eq_false_iff_not, notT, notF, beq_iff_eq, beq_eq_false_iff_ne, bne_iff_ne, bne_eq_false_iff_eq, tmodN, tdivN, Int.not_lt, Int.not_le] at g38
        rw [i64_id (by omega) (by omega)] at g38
        refine Runs.skip ?_
        refine Runs.seq ?_
        refine Runs.reg [] [] rfl (by rw [i64_id (x := 4 + (num4 rest : Int)) (by omega) (by omega)]; and_intros <;> first | exact True.intro | omega | decide) ?_
        refine Runs.reg [] [] rfl (by rw [i64_id (x := 4 + (num4 rest : Int)) (by omega) (by omega)]; and_intros <;> first | exact True.intro | omega | decide) ?_
        refine Runs.inBlock ?_
        exact ih (rest.drop (4 + num4 rest), out ++ [(rest.drop 4).take (num4 rest)], k - 1) _ _ (by exact hi.step (by omega) (by omega)) (by simp only [List.length_drop]; omega) (by exact agree_cons rfl (by exact binj (up_drop rest _ (by omega))) (agree_imp rfl (by rw [up_take rest _ (by omega) (by omega)]; exact strs_app out _ true) rfl rfl (trivial))) (by rfl)
  · try simp only [decide_eq_true_eq, decide_eq_false_iff_not, notT, notF, beq_iff_eq, beq_eq_false_iff_ne, bne_iff_ne, bne_eq_false_iff_eq, tmodN, tdivN, Int.not_lt, Int.not_le] at g8
    refine Runs.exit rfl ?_
    refine Runs.seq ?_
    refine Runs.reg [] [0, 1, 3] rfl (by (try simp only [wrap_i64', wrap_u8, wrap_u16, wrap_u32, wrap_u64, wrap_i32, List.length_cons, List.length_nil, List.length_append, List.length_map, tmodN, tdivN]); and_intros <;> first | exact True.intro | omega | skip) ?_
    exact Runs.frame [(2, .sl 1 out.length (strEl out) true), (3, .bool true)] (by exact agree_imp rfl (by exact Imp.slEq (by simp) (fun i hi => by simp [strEl])) rfl rfl (agree_cons rfl (by rfl) trivial)) (Runs.retH Tryd.func18 rfl rfl (by rw [hi.done (by omega)]; rfl) (by rfl))


theorem unp_len : ∀ (k : Nat) (b : List UInt8) (l : List (List UInt8)), unp k b = some l → l.length ≤ b.length
  | 0, b, l, h => by simp [unp] at h; subst h; exact Nat.zero_le _
  | k + 1, b, l, h => by
    unfold unp at h
    split at h
    · simp at h; subst h; exact Nat.zero_le _
    · split at h
      · simp at h
      · split at h
        · simp at h
        · rw [Option.map_eq_some_iff] at h
          obtain ⟨r, h1, rfl⟩ := h
          have := unp_len k _ r h1
          rw [List.length_drop] at this
          simp only [List.length_cons]; omega
theorem unpackL_len (b : List UInt8) : ((unpackL b).getD []).length ≤ b.length := by
  cases h : unpackL b with
  | none => simp
  | some l => exact unp_len _ _ _ h


def sx (c : UInt8) : Option Nat := if 65 ≤ c.toNat ∧ c.toNat ≤ 90 then some (c.toNat - 65) else if 97 ≤ c.toNat ∧ c.toNat ≤ 122 then some (c.toNat - 97 + 26) else if 48 ≤ c.toNat ∧ c.toNat ≤ 57 then some (c.toNat - 48 + 52) else if c.toNat = 43 then some 62 else if c.toNat = 47 then some 63 else none

theorem six_ok (c : UInt8) : FnOK Tryd.prog 27 [.int .u8 c.toNat] [] (.tup [.int .u64 ((sx c).getD 0 : Nat), .bool (sx c).isSome]) [] := by
  refine FnOK.of_runs Tryd.func27 rfl (Nat.le_of_ble_eq_true rfl) ?_
  refine Runs.seq ?_
  refine Runs.reg [] [] rfl (by (try simp only [wrap_i64', wrap_u8, wrap_u16, wrap_u32, wrap_u64, wrap_i32, List.length_cons, List.length_nil, List.length_append, List.length_map, tmodN, tdivN]); and_intros <;> first | exact True.intro | omega | skip) ?_
  refine Runs.seq ?_
  refine Runs.block ?_
  refine Runs.seq ?_
  refine Runs.region ?_
  refine Runs.restTo 3 [] [0, 3] rfl (by (try simp only [wrap_i64', wrap_u8, wrap_u16, wrap_u32, wrap_u64, wrap_i32, List.length_cons, List.length_nil, List.length_append, List.length_map, tmodN, tdivN]); and_intros <;> first | exact True.intro | omega | skip) ?_
  refine Runs.splitS 7 rfl (fun g7 => ?_) (fun g7 => ?_)
  · try simp only [decide_eq_true_eq, decide_eq_false_iff_not, notT, notF, beq_iff_eq, beq_eq_false_iff_ne, bne_iff_ne, bne_eq_false_iff_eq, tmodN, tdivN, Int.not_lt, Int.not_le] at g7
    refine Runs.rest [] [0, 3] rfl (by (try simp only [wrap_i64', wrap_u8, wrap_u16, wrap_u32, wrap_u64, wrap_i32, List.length_cons, List.length_nil, List.length_append, List.length_map, tmodN, tdivN]); and_intros <;> first | exact True.intro | omega | skip) ?_
    refine Runs.condS rfl (fun g4 => ?_) (fun g4 => ?_)
    · try simp only [decide_eq_true_eq, decide_eq_false_iff_not, notT, notF, beq_iff_eq, beq_eq_false_iff_ne, bne_iff_ne, bne_eq_false_iff_eq, tmodN, tdivN, Int.not_lt, Int.not_le] at g4
      refine Runs.seq ?_
      refine Runs.reg [] [0] rfl (by (try simp only [wrap_i64', wrap_u8, wrap_u16, wrap_u32, wrap_u64, wrap_i32, List.length_cons, List.length_nil, List.length_append, List.length_map, tmodN, tdivN]); and_intros <;> first | exact True.intro | omega | skip) ?_
      exact Runs.retH Tryd.func27 rfl rfl (by have := u8lt c; simp only [sx]; (try simp only [wrap_u8, wrap_u64]); (repeat' split) <;> first | (exfalso; omega) | (simp <;> omega)) (by rfl)
    · try simp only [decide_eq_true_eq, decide_eq_false_iff_not, notT, notF, beq_iff_eq, beq_eq_false_iff_ne, bne_iff_ne, bne_eq_false_iff_eq, tmodN, tdivN, Int.not_lt, Int.not_le] at g4
      refine Runs.seq ?_
      refine Runs.region ?_
      refine Runs.restTo 3 [] [0, 3] rfl (by (try simp only [wrap_i64', wrap_u8, wrap_u16, wrap_u32, wrap_u64, wrap_i32, List.length_cons, List.length_nil, List.length_append, List.length_map, tmodN, tdivN]); and_intros <;> first | exact True.intro | omega | skip) ?_
      refine Runs.splitS 17 rfl (fun g17 => ?_) (fun g17 => ?_)
      · try simp only [decide_eq_true_eq, decide_eq_false_iff_not, notT, notF, beq_iff_eq, beq_eq_false_iff_ne, bne_iff_ne, bne_eq_false_iff_eq, tmodN, tdivN, Int.not_lt, Int.not_le] at g17
        refine Runs.rest [] [0, 3] rfl (by (try simp only [wrap_i64', wrap_u8, wrap_u16, wrap_u32, wrap_u64, wrap_i32, List.length_cons, List.length_nil, List.length_append, List.length_map, tmodN, tdivN]); and_intros <;> first | exact True.intro | omega | skip) ?_
        refine Runs.condS rfl (fun g14 => ?_) (fun g14 => ?_)
        · try simp only [decide_eq_true_eq, decide_eq_false_iff_not, notT, notF, beq_iff_eq, beq_eq_false_iff_ne, bne_iff_ne, bne_eq_false_iff_eq, tmodN, tdivN, Int.not_lt, Int.not_le] at g14
          refine Runs.seq ?_
          refine Runs.reg [] [0] rfl (by (try simp only [wrap_i64', wrap_u8, wrap_u16, wrap_u32, wrap_u64, wrap_i32, List.length_cons, List.length_nil, List.length_append, List.length_map, tmodN, tdivN]); and_intros <;> first | exact True.intro | omega | skip) ?_
          exact Runs.retH Tryd.func27 rfl rfl (by have := u8lt c; simp only [sx]; (try simp only [wrap_u8, wrap_u64]); (repeat' split) <;> first | (exfalso; omega) | (simp <;> omega)) (by rfl)
        · try simp only [decide_eq_true_eq, decide_eq_false_iff_not, notT, notF, beq_iff_eq, beq_eq_false_iff_ne, bne_iff_ne, bne_eq_false_iff_eq, tmodN, tdivN, Int.not_lt, Int.not_le] at g14
          refine Runs.seq ?_
          refine Runs.region ?_
          refine Runs.restTo 3 [] [0, 3] rfl (by (try simp only [wrap_i64', wrap_u8, wrap_u16, wrap_u32, wrap_u64, wrap_i32, List.length_cons, List.length_nil, List.length_append, List.length_map, tmodN, tdivN]); and_intros <;> first | exact True.intro | omega | skip) ?_
          refine Runs.splitS 28 rfl (fun g28 => ?_) (fun g28 => ?_)
          · try simp only [decide_eq_true_eq, decide_eq_false_iff_not, notT, notF, beq_iff_eq, beq_eq_false_iff_ne, bne_iff_ne, bne_eq_false_iff_eq, tmodN, tdivN, Int.not_lt, Int.not_le] at g28
            refine Runs.rest [] [0, 3] rfl (by (try simp only [wrap_i64', wrap_u8, wrap_u16, wrap_u32, wrap_u64, wrap_i32, List.length_cons, List.length_nil, List.length_append, List.length_map, tmodN, tdivN]); and_intros <;> first | exact True.intro | omega | skip) ?_
            refine Runs.condS rfl (fun g25 => ?_) (fun g25 => ?_)
            · try simp only [decide_eq_true_eq, decide_eq_false_iff_not, notT, notF, beq_iff_eq, beq_eq_false_iff_ne, bne_iff_ne, bne_eq_false_iff_eq, tmodN, tdivN, Int.not_lt, Int.not_le] at g25
              refine Runs.seq ?_
              refine Runs.reg [] [0] rfl (by (try simp only [wrap_i64', wrap_u8, wrap_u16, wrap_u32, wrap_u64, wrap_i32, List.length_cons, List.length_nil, List.length_append, List.length_map, tmodN, tdivN]); and_intros <;> first | exact True.intro | omega | skip) ?_
              exact Runs.retH Tryd.func27 rfl rfl (by have := u8lt c; simp only [sx]; (try simp only [wrap_u8, wrap_u64]); (repeat' split) <;> first | (exfalso; omega) | (simp <;> omega)) (by rfl)
            · try simp only [decide_eq_true_eq, decide_eq_false_iff_not, notT, notF, beq_iff_eq, beq_eq_false_iff_ne, bne_iff_ne, bne_eq_false_iff_eq, tmodN, tdivN, Int.not_lt, Int.not_le] at g25
              refine Runs.seq ?_
              refine Runs.reg [] [0] rfl (by (try simp only [wrap_i64', wrap_u8, wrap_u16, wrap_u32, wrap_u64, wrap_i32, List.length_cons, List.length_nil, List.length_append, List.length_map, tmodN, tdivN]); and_intros <;> first | exact True.intro | omega | skip) ?_
              refine Runs.condS rfl (fun g36 => ?_) (fun g36 => ?_)
              · try simp only [decide_eq_true_eq, decide_eq_false_iff_not, notT, notF, beq_iff_eq, beq_eq_false_iff_ne, bne_iff_ne, bne_eq_false_iff_eq, tmodN, tdivN, Int.not_lt, Int.not_le] at g36
                refine Runs.seq ?_
                refine Runs.reg [] [] rfl (by (try simp only [wrap_i64', wrap_u8, wrap_u16, wrap_u32, wrap_u64, wrap_i32, List.length_cons, List.length_nil, List.length_append, List.length_map, tmodN, tdivN]); and_intros <;> first | exact True.intro | omega | skip) ?_
                exact Runs.retH Tryd.func27 rfl rfl (by have := u8lt c; simp only [sx]; (try simp only [wrap_u8, wrap_u64]); (repeat' split) <;> first | (exfalso; omega) | (simp <;> omega)) (by rfl)
              · try simp only [decide_eq_true_eq, decide_eq_false_iff_not, notT, notF, beq_iff_eq, beq_eq_false_iff_ne, bne_iff_ne, bne_eq_false_iff_eq, tmodN, tdivN, Int.not_lt, Int.not_le] at g36
                refine Runs.seq ?_
                refine Runs.reg [] [0] rfl (by (try simp only [wrap_i64', wrap_u8, wrap_u16, wrap_u32, wrap_u64, wrap_i32, List.length_cons, List.length_nil, List.length_append, List.length_map, tmodN, tdivN]); and_intros <;> first | exact True.intro | omega | skip) ?_
                refine Runs.condS rfl (fun g39 => ?_) (fun g39 => ?_)
                · try simp only [decide_eq_true_eq, decide_eq_false_iff_not, notT, notF, beq_iff_eq, beq_eq_false_iff_ne, bne_iff_ne, bne_eq_false_iff_eq, tmodN, tdivN, Int.not_lt, Int.not_le] at g39
                  refine Runs.seq ?_
                  refine Runs.reg [] [] rfl (by (try simp only [wrap_i64', wrap_u8, wrap_u16, wrap_u32, wrap_u64, wrap_i32, List.length_cons, List.length_nil, List.length_append, List.length_map, tmodN, tdivN]); and_intros <;> first | exact True.intro | omega | skip) ?_
                  exact Runs.retH Tryd.func27 rfl rfl (by have := u8lt c; simp only [sx]; (try simp only [wrap_u8, wrap_u64]); (repeat' split) <;> first | (exfalso; omega) | (simp <;> omega)) (by rfl)
                · try simp only [decide_eq_true_eq, decide_eq_false_iff_not, notT, notF, beq_iff_eq, beq_eq_false_iff_ne, bne_iff_ne, bne_eq_false_iff_eq, tmodN, tdivN, Int.not_lt, Int.not_le] at g39
                  refine Runs.skip ?_
                  refine Runs.inBlock ?_
                  refine Runs.seq ?_
                  refine Runs.reg [] [] rfl (by (try simp only [wrap_i64', wrap_u8, wrap_u16, wrap_u32, wrap_u64, wrap_i32, List.length_cons, List.length_nil, List.length_append, List.length_map, tmodN, tdivN]); and_intros <;> first | exact True.intro | omega | skip) ?_
                  exact Runs.retH Tryd.func27 rfl rfl (by have := u8lt c; simp only [sx]; (try simp only [wrap_u8, wrap_u64]); (repeat' split) <;> first | (exfalso; omega) | (simp <;> omega)) (by rfl)
          · try simp only [decide_eq_true_eq, decide_eq_false_iff_not, notT, notF, beq_iff_eq, beq_eq_false_iff_ne, bne_iff_ne, bne_eq_false_iff_eq, tmodN, tdivN, Int.not_lt, Int.not_le] at g28
            refine Runs.rest [] [0, 3] rfl (by (try simp only [wrap_i64', wrap_u8, wrap_u16, wrap_u32, wrap_u64, wrap_i32, List.length_cons, List.length_nil, List.length_append, List.length_map, tmodN, tdivN]); and_intros <;> first | exact True.intro | omega | skip) ?_
            refine Runs.condF rfl ?_
            refine Runs.seq ?_
            refine Runs.reg [] [0] rfl (by (try simp only [wrap_i64', wrap_u8, wrap_u16, wrap_u32, wrap_u64, wrap_i32, List.length_cons, List.length_nil, List.length_append, List.length_map, tmodN, tdivN]); and_intros <;> first | exact True.intro | omega | skip) ?_
            refine Runs.condS rfl (fun g36 => ?_) (fun g36 => ?_)
            · try simp only [decide_eq_true_eq, decide_eq_false_iff_not, notT, notF, beq_iff_eq, beq_eq_false_iff_ne, bne_iff_ne, bne_eq_false_iff_eq, tmodN, tdivN, Int.not_lt, Int.not_le] at g36
              refine Runs.seq ?_
              refine Runs.reg [] [] rfl (by (try simp only [wrap_i64', wrap_u8, wrap_u16, wrap_u32, wrap_u64, wrap_i32, List.length_cons, List.length_nil, List.length_append, List.length_map, tmodN, tdivN]); and_intros <;> first | exact True.intro | omega | skip) ?_
              exact Runs.retH Tryd.func27 rfl rfl (by have := u8lt c; simp only [sx]; (try simp only [wrap_u8, wrap_u64]); (repeat' split) <;> first | (exfalso; omega) | (simp <;> omega)) (by rfl)
            · try simp only [decide_eq_true_eq, decide_eq_false_iff_not, notT, notF, beq_iff_eq, beq_eq_false_iff_ne, bne_iff_ne, bne_eq_false_iff_eq, tmodN, tdivN, Int.not_lt, Int.not_le] at g36
              refine Runs.seq ?_
              refine Runs.reg [] [0] rfl (by (try simp only [wrap_i64', wrap_u8, wrap_u16, wrap_u32, wrap_u64, wrap_i32, List.length_cons, List.length_nil, List.length_append, List.length_map, tmodN, tdivN]); and_intros <;> first | exact True.intro | omega | skip) ?_
              refine Runs.condS rfl (fun g39 => ?_) (fun g39 => ?_)
              · try simp only [decide_eq_true_eq, decide_eq_false_iff_not, notT, notF, beq_iff_eq, beq_eq_false_iff_ne, bne_iff_ne, bne_eq_false_iff_eq, tmodN, tdivN, Int.not_lt, Int.not_le] at g39
                refine Runs.seq ?_
                refine Runs.reg [] [] rfl (by (try simp only [wrap_i64', wrap_u8, wrap_u16, wrap_u32, wrap_u64, wrap_i32, List.length_cons, List.length_nil, List.length_append, List.length_map, tmodN, tdivN]); and_intros <;> first | exact True.intro | omega | skip) ?_
                exact Runs.retH Tryd.func27 rfl rfl (by have := u8lt c; simp only [sx]; (try simp only [wrap_u8, wrap_u64]); (repeat' split) <;> first | (exfalso; omega) | (simp <;> omega)) (by rfl)
              · try simp only [decide_eq_true_eq, decide_eq_false_iff_not, notT, notF, beq_iff_eq, beq_eq_false_iff_ne, bne_iff_ne, bne_eq_false_iff_eq, tmodN, tdivN, Int.not_lt, Int.not_le] at g39
                refine Runs.skip ?_
                refine Runs.inBlock ?_
                refine Runs.seq ?_
                refine Runs.reg [] [] rfl (by (try simp only [wrap_i64', wrap_u8, wrap_u16, wrap_u32, wrap_u64, wrap_i32, List.length_cons, List.length_nil, List.length_append, List.length_map, tmodN, tdivN]); and_intros <;> first | exact True.intro | omega | skip) ?_
                exact Runs.retH Tryd.func27 rfl rfl (by have := u8lt c; simp only [sx]; (try simp only [wrap_u8, wrap_u64]); (repeat' split) <;> first | (exfalso; omega) | (simp <;> omega)) (by rfl)
      · try simp only [decide_eq_true_eq, decide_eq_false_iff_not, notT, notF, beq_iff_eq, beq_eq_false_iff_ne, bne_iff_ne, bne_eq_false_iff_eq, tmodN, tdivN, Int.not_lt, Int.not_le] at g17
        refine Runs.rest [] [0, 3] rfl (by (try simp only [wrap_i64', wrap_u8, wrap_u16, wrap_u32, wrap_u64, wrap_i32, List.length_cons, List.length_nil, List.length_append, List.length_map, tmodN, tdivN]); and_intros <;> first | exact True.intro | omega | skip) ?_
        refine Runs.condF rfl ?_
        refine Runs.seq ?_
        refine Runs.region ?_
        refine Runs.restTo 3 [] [0, 3] rfl (by (try simp only [wrap_i64', wrap_u8, wrap_u16, wrap_u32, wrap_u64, wrap_i32, List.length_cons, List.length_nil, List.length_append, List.length_map, tmodN, tdivN]); and_intros <;> first | exact True.intro | omega | skip) ?_
        refine Runs.splitS 28 rfl (fun g28 => ?_) (fun g28 => ?_)
        · try simp only [decide_eq_true_eq, decide_eq_false_iff_not, notT, notF, beq_iff_eq, beq_eq_false_iff_ne, bne_iff_ne, bne_eq_false_iff_eq, tmodN, tdivN, Int.not_lt, Int.not_le] at g28
          refine Runs.rest [] [0, 3] rfl (by (try simp only [wrap_i64', wrap_u8, wrap_u16, wrap_u32, wrap_u64, wrap_i32, List.length_cons, List.length_nil, List.length_append, List.length_map, tmodN, tdivN]); and_intros <;> first | exact True.intro | omega | skip) ?_
          refine Runs.condS rfl (fun g25 => ?_) (fun g25 => ?_)
          · try simp only [decide_eq_true_eq, decide_eq_false_iff_not, notT, notF, beq_iff_eq, beq_eq_false_iff_ne, bne_iff_ne, bne_eq_false_iff_eq, tmodN, tdivN, Int.not_lt, Int.not_le] at g25
            refine Runs.seq ?_
            refine Runs.reg [] [0] rfl (by (try simp only [wrap_i64', wrap_u8, wrap_u16, wrap_u32, wrap_u64, wrap_i32, List.length_cons, List.length_nil, List.length_append, List.length_map, tmodN, tdivN]); and_intros <;> first | exact True.intro | omega | skip) ?_
            exact Runs.retH Tryd.func27 rfl rfl (by have := u8lt c; simp only [sx]; (try simp only [wrap_u8, wrap_u64]); (repeat' split) <;> first | (exfalso; omega) | (simp <;> omega)) (by rfl)
          · try simp only [decide_eq_true_eq, decide_eq_false_iff_not, notT, notF, beq_iff_eq, beq_eq_false_iff_ne, bne_iff_ne, bne_eq_false_iff_eq, tmodN, tdivN, Int.not_lt, Int.not_le] at g25
            refine Runs.seq ?_
            refine Runs.reg [] [0] rfl (by (try simp only [wrap_i64', wrap_u8, wrap_u16, wrap_u32, wrap_u64, wrap_i32, List.length_cons, List.length_nil, List.length_append, List.length_map, tmodN, tdivN]); and_intros <;> first | exact True.intro | omega | skip) ?_
            refine Runs.condS rfl (fun g36 => ?_) (fun g36 => ?_)
            · try simp only [decide_eq_true_eq, decide_eq_false_iff_not, notT, notF, beq_iff_eq, beq_eq_false_iff_ne, bne_iff_ne, bne_eq_false_iff_eq, tmodN, tdivN, Int.not_lt, Int.not_le] at g36
              refine Runs.seq ?_
              refine Runs.reg [] [] rfl (by (try simp only [wrap_i64', wrap_u8, wrap_u16, wrap_u32, wrap_u64, wrap_i32, List.length_cons, List.length_nil, List.length_append, List.length_map, tmodN, tdivN]); and_intros <;> first | exact True.intro | omega | skip) ?_
              exact Runs.retH Tryd.func27 rfl rfl (by have := u8lt c; simp only [sx]; (try simp only [wrap_u8, wrap_u64]); (repeat' split) <;> first | (exfalso; omega) | (simp <;> omega)) (by rfl)
            · try simp only [decide_eq_true_eq, decide_eq_false_iff_not, notT, notF, beq_iff_eq, beq_eq_false_iff_ne, bne_iff_ne, bne_eq_false_iff_eq, tmodN, tdivN, Int.not_lt, Int.not_le] at g36
              refine Runs.seq ?_
              refine Runs.reg [] [0] rfl (by (try simp only [wrap_i64', wrap_u8, wrap_u16, wrap_u32, wrap_u64, wrap_i32, List.length_cons, List.length_nil, List.length_append, List.length_map, tmodN, tdivN]); and_intros <;> first | exact True.intro | omega | skip) ?_
              refine Runs.condS rfl (fun g39 => ?_) (fun g39 => ?_)
              · try simp only [decide_eq_true_eq, decide_eq_false_iff_not, notT, notF, beq_iff_eq, beq_eq_false_iff_ne, bne_iff_ne, bne_eq_false_iff_eq, tmodN, tdivN, Int.not_lt, Int.not_le] at g39
                refine Runs.seq ?_
                refine Runs.reg [] [] rfl (by (try simp only [wrap_i64', wrap_u8, wrap_u16, wrap_u32, wrap_u64, wrap_i32, List.length_cons, List.length_nil, List.length_append, List.length_map, tmodN, tdivN]); and_intros <;> first | exact True.intro | omega | skip) ?_
                exact Runs.retH Tryd.func27 rfl rfl (by have := u8lt c; simp only [sx]; (try simp only [wrap_u8, wrap_u64]); (repeat' split) <;> first | (exfalso; omega) | (simp <;> omega)) (by rfl)
              · try simp only [decide_eq_true_eq, decide_eq_false_iff_not, notT, notF, beq_iff_eq, beq_eq_false_iff_ne, bne_iff_ne, bne_eq_false_iff_eq, tmodN, tdivN, Int.not_lt, Int.not_le] at g39
                refine Runs.skip ?_
                refine Runs.inBlock ?_
                refine Runs.seq ?_
                refine Runs.reg [] [] rfl (by (try simp only [wrap_i64', wrap_u8, wrap_u16, wrap_u32, wrap_u64, wrap_i32, List.length_cons, List.length_nil, List.length_append, List.length_map, tmodN, tdivN]); and_intros <;> first | exact True.intro | omega | skip) ?_
                exact Runs.retH Tryd.func27 rfl rfl (by have := u8lt c; simp only [sx]; (try simp only [wrap_u8, wrap_u64]); (repeat' split) <;> first | (exfalso; omega) | (simp <;> omega)) (by rfl)
        · try simp only [decide_eq_true_eq, decide_eq_false_iff_not, notT, notF, beq_iff_eq, beq_eq_false_iff_ne, bne_iff_ne, bne_eq_false_iff_eq, tmodN, tdivN, Int.not_lt, Int.not_le] at g28
          refine Runs.rest [] [0, 3] rfl (by (try simp only [wrap_i64', wrap_u8, wrap_u16, wrap_u32, wrap_u64, wrap_i32, List.length_cons, List.length_nil, List.length_append, List.length_map, tmodN, tdivN]); and_intros <;> first | exact True.intro | omega | skip) ?_
          refine Runs.condF rfl ?_
          refine Runs.seq ?_
          refine Runs.reg [] [0] rfl (by (try simp only [wrap_i64', wrap_u8, wrap_u16, wrap_u32, wrap_u64, wrap_i32, List.length_cons, List.length_nil, List.length_append, List.length_map, tmodN, tdivN]); and_intros <;> first | exact True.intro | omega | skip) ?_
          refine Runs.condS rfl (fun g36 => ?_) (fun g36 => ?_)
          · try simp only [decide_eq_true_eq, decide_eq_false_iff_not, notT, notF, beq_iff_eq, beq_eq_false_iff_ne, bne_iff_ne, bne_eq_false_iff_eq, tmodN, tdivN, Int.not_lt, Int.not_le] at g36
            refine Runs.seq ?_
            refine Runs.reg [] [] rfl (by (try simp only [wrap_i64', wrap_u8, wrap_u16, wrap_u32, wrap_u64, wrap_i32, List.length_cons, List.length_nil, List.length_append, List.length_map, tmodN, tdivN]); and_intros <;> first | exact True.intro | omega | skip) ?_
            exact Runs.retH Tryd.func27 rfl rfl (by have := u8lt c; simp only [sx]; (try simp only [wrap_u8, wrap_u64]); (repeat' split) <;> first | (exfalso; omega) | (simp <;> omega)) (by rfl)
          · try simp only [decide_eq_true_eq, decide_eq_false_iff_not, notT, notF, beq_iff_eq, beq_eq_false_iff_ne, bne_iff_ne, bne_eq_false_iff_eq, tmodN, tdivN, Int.not_lt, Int.not_le] at g36
            refine Runs.seq ?_
            refine Runs.reg [] [0] rfl (by (try simp only [wrap_i64', wrap_u8, wrap_u16, wrap_u32, wrap_u64, wrap_i32, List.length_cons, List.length_nil, List.length_append, List.length_map, tmodN, tdivN]); and_intros <;> first | exact True.intro | omega | skip) ?_
            refine Runs.condS rfl (fun g39 => ?_) (fun g39 => ?_)
            · try simp only [decide_eq_true_eq, decide_eq_false_iff_not, notT, notF, beq_iff_eq, beq_eq_false_iff_ne, bne_iff_ne, bne_eq_false_iff_eq, tmodN, tdivN, Int.not_lt, Int.not_le] at g39
              refine Runs.seq ?_
              refine Runs.reg [] [] rfl (by (try simp only [wrap_i64', wrap_u8, wrap_u16, wrap_u32, wrap_u64, wrap_i32, List.length_cons, List.length_nil, List.length_append, List.length_map, tmodN, tdivN]); and_intros <;> first | exact True.intro | omega | skip) ?_
              exact Runs.retH Tryd.func27 rfl rfl (by have := u8lt c; simp only [sx]; (try simp only [wrap_u8, wrap_u64]); (repeat' split) <;> first | (exfalso; omega) | (simp <;> omega)) (by rfl)
            · try simp only [decide_eq_true_eq, decide_eq_false_iff_not, notT, notF, beq_iff_eq, beq_eq_false_iff_ne, bne_iff_ne, bne_eq_false_iff_eq, tmodN, tdivN, Int.not_lt, Int.not_le] at g39
              refine Runs.skip ?_
              refine Runs.inBlock ?_
              refine Runs.seq ?_
              refine Runs.reg [] [] rfl (by (try simp only [wrap_i64', wrap_u8, wrap_u16, wrap_u32, wrap_u64, wrap_i32, List.length_cons, List.length_nil, List.length_append, List.length_map, tmodN, tdivN]); and_intros <;> first | exact True.intro | omega | skip) ?_
              exact Runs.retH Tryd.func27 rfl rfl (by have := u8lt c; simp only [sx]; (try simp only [wrap_u8, wrap_u64]); (repeat' split) <;> first | (exfalso; omega) | (simp <;> omega)) (by rfl)
  · try simp only [decide_eq_true_eq, decide_eq_false_iff_not, notT, notF, beq_iff_eq, beq_eq_false_iff_ne, bne_iff_ne, bne_eq_false_iff_eq, tmodN, tdivN, Int.not_lt, Int.not_le] at g7
    refine Runs.rest [] [0, 3] rfl (by (try simp only [wrap_i64', wrap_u8, wrap_u16, wrap_u32, wrap_u64, wrap_i32, List.length_cons, List.length_nil, List.length_append, List.length_map, tmodN, tdivN]); and_intros <;> first | exact True.intro | omega | skip) ?_
    refine Runs.condF rfl ?_
    refine Runs.seq ?_
    refine Runs.region ?_
    refine Runs.restTo 3 [] [0, 3] rfl (by (try simp only [wrap_i64', wrap_u8, wrap_u16, wrap_u32, wrap_u64, wrap_i32, List.length_cons, List.length_nil, List.length_append, List.length_map, tmodN, tdivN]); and_intros <;> first | exact True.intro | omega | skip) ?_
    refine Runs.splitS 17 rfl (fun g17 => ?_) (fun g17 => ?_)
    · try simp only [decide_eq_true_eq, decide_eq_false_iff_not, notT, notF, beq_iff_eq, beq_eq_false_iff_ne, bne_iff_ne, bne_eq_false_iff_eq, tmodN, tdivN, Int.not_lt, Int.not_le] at g17
      refine Runs.rest [] [0, 3] rfl (by (try simp only [wrap_i64', wrap_u8, wrap_u16, wrap_u32, wrap_u64, wrap_i32, List.length_cons, List.length_nil, List.length_append, List.length_map, tmodN, tdivN]); and_intros <;> first | exact True.intro | omega | skip) ?_
      refine Runs.condS rfl (fun g14 => ?_) (fun g14 => ?_)
      · try simp only [decide_eq_true_eq, decide_eq_false_iff_not, notT, notF, beq_iff_eq, beq_eq_false_iff_ne, bne_iff_ne, bne_eq_false_iff_eq, tmodN, tdivN, Int.not_lt, Int.not_le] at g14
        refine Runs.seq ?_
        refine Runs.reg [] [0] rfl (by (try simp only [wrap_i64', wrap_u8, wrap_u16, wrap_u32, wrap_u64, wrap_i32, List.length_cons, List.length_nil, List.length_append, List.length_map, tmodN, tdivN]); and_intros <;> first | exact True.intro | omega | skip) ?_
        exact Runs.retH Tryd.func27 rfl rfl (by have := u8lt c; simp only [sx]; (try simp only [wrap_u8, wrap_u64]); (repeat' split) <;> first | (exfalso; omega) | (simp <;> omega)) (by rfl)
      · try simp only [decide_eq_true_eq, decide_eq_false_iff_not, notT, notF, beq_iff_eq, beq_eq_false_iff_ne, bne_iff_ne, bne_eq_false_iff_eq, tmodN, tdivN, Int.not_lt, Int.not_le] at g14
        refine Runs.seq ?_
        refine Runs.region ?_
        refine Runs.restTo 3 [] [0, 3] rfl (by (try simp only [wrap_i64', wrap_u8, wrap_u16, wrap_u32, wrap_u64, wrap_i32, List.length_cons, List.length_nil, List.length_append, List.length_map, tmodN, tdivN]); and_intros <;> first | exact True.intro | omega | skip) ?_
        refine Runs.splitS 28 rfl (fun g28 => ?_) (fun g28 => ?_)
        · try simp only [decide_eq_true_eq, decide_eq_false_iff_not, notT, notF, beq_iff_eq, beq_eq_false_iff_ne, bne_iff_ne, bne_eq_false_iff_eq, tmodN, tdivN, Int.not_lt, Int.not_le] at g28
          refine Runs.rest [] [0, 3] rfl (by (try simp only [wrap_i64', wrap_u8, wrap_u16, wrap_u32, wrap_u64, wrap_i32, List.length_cons, List.length_nil, List.length_append, List.length_map, tmodN, tdivN]); and_intros <;> first | exact True.intro | omega | skip) ?_
          refine Runs.condS rfl (fun g25 => ?_) (fun g25 => ?_)
          · try simp only [decide_eq_true_eq, decide_eq_false_iff_not, notT, notF, beq_iff_eq, beq_eq_false_iff_ne, bne_iff_ne, bne_eq_false_iff_eq, tmodN, tdivN, Int.not_lt, Int.not_le] at g25
            refine Runs.seq ?_
            refine Runs.reg [] [0] rfl (by (try simp only [wrap_i64', wrap_u8, wrap_u16, wrap_u32, wrap_u64, wrap_i32, List.length_cons, List.length_nil, List.length_append, List.length_map, tmodN, tdivN]); and_intros <;> first | exact True.intro | omega | skip) ?_
            exact Runs.retH Tryd.func27 rfl rfl (by have := u8lt c; simp only [sx]; (try simp only [wrap_u8, wrap_u64]); (repeat' split) <;> first | (exfalso; omega) | (simp <;> omega)) (by rfl)
          · try simp only [decide_eq_true_eq, decide_eq_false_iff_not, notT, notF, beq_iff_eq, beq_eq_false_iff_ne, bne_iff_ne, bne_eq_false_iff_eq, tmodN, tdivN, Int.not_lt, Int.not_le] at g25
            refine Runs.seq ?_
            refine Runs.reg [] [0] rfl (by (try simp only [wrap_i64', wrap_u8, wrap_u16, wrap_u32, wrap_u64, wrap_i32, List.length_cons, List.length_nil, List.length_append, List.length_map, tmodN, tdivN]); and_intros <;> first | exact True.intro | omega | skip) ?_
            refine Runs.condS rfl (fun g36 => ?_) (fun g36 => ?_)
            · try simp only [decide_eq_true_eq, decide_eq_false_iff_not, notT, notF, beq_iff_eq, beq_eq_false_iff_ne, bne_iff_ne, bne_eq_false_iff_eq, tmodN, tdivN, Int.not_lt, Int.not_le] at g36
              refine Runs.seq ?_
              refine Runs.reg [] [] rfl (by (try simp only [wrap_i64', wrap_u8, wrap_u16, wrap_u32, wrap_u64, wrap_i32, List.length_cons, List.length_nil, List.length_append, List.length_map, tmodN, tdivN]); and_intros <;> first | exact True.intro | omega | skip) ?_
              exact Runs.retH Tryd.func27 rfl rfl (by have := u8lt c; simp only [sx]; (try simp only [wrap_u8, wrap_u64]); (repeat' split) <;> first | (exfalso; omega) | (simp <;> omega)) (by rfl)
            · try simp only [decide_eq_true_eq, decide_eq_false_iff_not, notT, notF, beq_iff_eq, beq_eq_false_iff_ne, bne_iff_ne, bne_eq_false_iff_eq, tmodN, tdivN, Int.not_lt, Int.not_le] at g36
              refine Runs.seq ?_
              refine Runs.reg [] [0] rfl (by (try simp only [wrap_i64', wrap_u8, wrap_u16, wrap_u32, wrap_u64, wrap_i32, List.length_cons, List.length_nil, List.length_append, List.length_map, tmodN, tdivN]); and_intros <;> first | exact True.intro | omega | skip) ?_
              refine Runs.condS rfl (fun g39 => ?_) (fun g39 => ?_)
              · try simp only [decide_eq_true_eq, decide_eq_false_iff_not, notT, notF, beq_iff_eq, beq_eq_false_iff_ne, bne_iff_ne, bne_eq_false_iff_eq, tmodN, tdivN, Int.not_lt, Int.not_le] at g39
                refine Runs.seq ?_
                refine Runs.reg [] [] rfl (by (try simp only [wrap_i64', wrap_u8, wrap_u16, wrap_u32, wrap_u64, wrap_i32, List.length_cons, List.length_nil, List.length_append, List.length_map, tmodN, tdivN]); and_intros <;> first | exact True.intro | omega | skip) ?_
                exact Runs.retH Tryd.func27 rfl rfl (by have := u8lt c; simp only [sx]; (try simp only [wrap_u8, wrap_u64]); (repeat' split) <;> first | (exfalso; omega) | (simp <;> omega)) (by rfl)
              · try simp only [decide_eq_true_eq, decide_eq_false_iff_not, notT, notF, beq_iff_eq, beq_eq_false_iff_ne, bne_iff_ne, bne_eq_false_iff_eq, tmodN, tdivN, Int.not_lt, Int.not_le] at g39
                refine Runs.skip ?_
                refine Runs.inBlock ?_
                refine Runs.seq ?_
                refine Runs.reg [] [] rfl (by (try simp only [wrap_i64', wrap_u8, wrap_u16, wrap_u32, wrap_u64, wrap_i32, List.length_cons, List.length_nil, List.length_append, List.length_map, tmodN, tdivN]); and_intros <;> first | exact True.intro | omega | skip) ?_
                exact Runs.retH Tryd.func27 rfl rfl (by have := u8lt c; simp only [sx]; (try simp only [wrap_u8, wrap_u64]); (repeat' split) <;> first | (exfalso; omega) | (simp <;> omega)) (by rfl)
        · try simp only [decide_eq_true_eq, decide_eq_false_iff_not, notT, notF, beq_iff_eq, beq_eq_false_iff_ne, bne_iff_ne, bne_eq_false_iff_eq, tmodN, tdivN, Int.not_lt, Int.not_le] at g28
          refine Runs.rest [] [0, 3] rfl (by (try simp only [wrap_i64', wrap_u8, wrap_u16, wrap_u32, wrap_u64, wrap_i32, List.length_cons, List.length_nil, List.length_append, List.length_map, tmodN, tdivN]); and_intros <;> first | exact True.intro | omega | skip) ?_
          refine Runs.condF rfl ?_
          refine Runs.seq ?_
          refine Runs.reg [] [0] rfl (by (try simp only [wrap_i64', wrap_u8, wrap_u16, wrap_u32, wrap_u64, wrap_i32, List.length_cons, List.length_nil, List.length_append, List.length_map, tmodN, tdivN]); and_intros <;> first | exact True.intro | omega | skip) ?_
          refine Runs.condS rfl (fun g36 => ?_) (fun g36 => ?_)
          · try simp only [decide_eq_true_eq, decide_eq_false_iff_not, notT, notF, beq_iff_eq, beq_eq_false_iff_ne, bne_iff_ne, bne_eq_false_iff_eq, tmodN, tdivN, Int.not_lt, Int.not_le] at g36
            refine Runs.seq ?_
            refine Runs.reg [] [] rfl (by (try simp only [wrap_i64', wrap_u8, wrap_u16, wrap_u32, wrap_u64, wrap_i32, List.length_cons, List.length_nil, List.length_append, List.length_map, tmodN, tdivN]); and_intros <;> first | exact True.intro | omega | skip) ?_
            exact Runs.retH Tryd.func27 rfl rfl (by have := u8lt c; simp only [sx]; (try simp only [wrap_u8, wrap_u64]); (repeat' split) <;> first | (exfalso; omega) | (simp <;> omega)) (by rfl)
          · try simp only [decide_eq_true_eq, decide_eq_false_iff_not, notT, notF, beq_iff_eq, beq_eq_false_iff_ne, bne_iff_ne, bne_eq_false_iff_eq, tmodN, tdivN, Int.not_lt, Int.not_le] at g36
            refine Runs.seq ?_
            refine Runs.reg [] [0] rfl (by (try simp only [wrap_i64', wrap_u8, wrap_u16, wrap_u32, wrap_u64, wrap_i32, List.length_cons, List.length_nil, List.length_append, List.length_map, tmodN, tdivN]); and_intros <;> first | exact True.intro | omega | skip) ?_
            refine Runs.condS rfl (fun g39 => ?_) (fun g39 => ?_)
            · try simp only [decide_eq_true_eq, decide_eq_false_iff_not, notT, notF, beq_iff_eq, beq_eq_false_iff_ne, bne_iff_ne, bne_eq_false_iff_eq, tmodN, tdivN, Int.not_lt, Int.not_le] at g39
              refine Runs.seq ?_
              refine Runs.reg [] [] rfl (by (try simp only [wrap_i64', wrap_u8, wrap_u16, wrap_u32, wrap_u64, wrap_i32, List.length_cons, List.length_nil, List.length_append, List.length_map, tmodN, tdivN]); and_intros <;> first | exact True.intro | omega | skip) ?_
              exact Runs.retH Tryd.func27 rfl rfl (by have := u8lt c; simp only [sx]; (try simp only [wrap_u8, wrap_u64]); (repeat' split) <;> first | (exfalso; omega) | (simp <;> omega)) (by rfl)
            · try simp only [decide_eq_true_eq, decide_eq_false_iff_not, notT, notF, beq_iff_eq, beq_eq_false_iff_ne, bne_iff_ne, bne_eq_false_iff_eq, tmodN, tdivN, Int.not_lt, Int.not_le] at g39
              refine Runs.skip ?_
              refine Runs.inBlock ?_
              refine Runs.seq ?_
              refine Runs.reg [] [] rfl (by (try simp only [wrap_i64', wrap_u8, wrap_u16, wrap_u32, wrap_u64, wrap_i32, List.length_cons, List.length_nil, List.length_append, List.length_map, tmodN, tdivN]); and_intros <;> first | exact True.intro | omega | skip) ?_
              exact Runs.retH Tryd.func27 rfl rfl (by have := u8lt c; simp only [sx]; (try simp only [wrap_u8, wrap_u64]); (repeat' split) <;> first | (exfalso; omega) | (simp <;> omega)) (by rfl)
    · try simp only [decide_eq_true_eq, decide_eq_false_iff_not, notT, notF, beq_iff_eq, beq_eq_false_iff_ne, bne_iff_ne, bne_eq_false_iff_eq, tmodN, tdivN, Int.not_lt, Int.not_le] at g17
      refine Runs.rest [] [0, 3] rfl (by (try simp only [wrap_i64', wrap_u8, wrap_u16, wrap_u32, wrap_u64, wrap_i32, List.length_cons, List.length_nil, List.length_append, List.length_map, tmodN, tdivN]); and_intros <;> first | exact True.intro | omega | skip) ?_
      refine Runs.condF rfl ?_
      refine Runs.seq ?_
      refine Runs.region ?_
      refine Runs.restTo 3 [] [0, 3] rfl (by (try simp only [wrap_i64', wrap_u8, wrap_u16, wrap_u32, wrap_u64, wrap_i32, List.length_cons, List.length_nil, List.length_append, List.length_map, tmodN, tdivN]); and_intros <;> first | exact True.intro | omega | skip) ?_
      refine Runs.splitS 28 rfl (fun g28 => ?_) (fun g28 => ?_)
      · try simp only [decide_eq_true_eq, decide_eq_false_iff_not, notT, notF, beq_iff_eq, beq_eq_false_iff_ne, bne_iff_ne, bne_eq_false_iff_eq, tmodN, tdivN, Int.not_lt, Int.not_le] at g28
        refine Runs.rest [] [0, 3] rfl (by (try simp only [wrap_i64', wrap_u8, wrap_u16, wrap_u32, wrap_u64, wrap_i32, List.length_cons, List.length_nil, List.length_append, List.length_map, tmodN, tdivN]); and_intros <;> first | exact True.intro | omega | skip) ?_
        refine Runs.condS rfl (fun g25 => ?_) (fun g25 => ?_)
        · try simp only [decide_eq_true_eq, decide_eq_false_iff_not, notT, notF, beq_iff_eq, beq_eq_false_iff_ne, bne_iff_ne, bne_eq_false_iff_eq, tmodN, tdivN, Int.not_lt, Int.not_le] at g25
          refine Runs.seq ?_
          refine Runs.reg [] [0] rfl (by (try simp only [wrap_i64', wrap_u8, wrap_u16, wrap_u32, wrap_u64, wrap_i32, List.length_cons, List.length_nil, List.length_append, List.length_map, tmodN, tdivN]); and_intros <;> first | exact True.intro | omega | skip) ?_
          exact Runs.retH Tryd.func27 rfl rfl (by have := u8lt c; simp only [sx]; (try simp only [wrap_u8, wrap_u64]); (repeat' split) <;> first | (exfalso; omega) | (simp <;> omega)) (by rfl)
        · try simp only [decide_eq_true_eq, decide_eq_false_iff_not, notT, notF, beq_iff_eq, beq_eq_false_iff_ne, bne_iff_ne, bne_eq_false_iff_eq, tmodN, tdivN, Int.not_lt, Int.not_le] at g25
          refine Runs.seq ?_
          refine Runs.reg [] [0] rfl (by (try simp only [wrap_i64', wrap_u8, wrap_u16, wrap_u32, wrap_u64, wrap_i32, List.length_cons, List.length_nil, List.length_append, List.length_map, tmodN, tdivN]); and_intros <;> first | exact True.intro | omega | skip) ?_
          refine Runs.condS rfl (fun g36 => ?_) (fun g36 => ?_)
          · try simp only [decide_eq_true_eq, decide_eq_false_iff_not, notT, notF, beq_iff_eq, beq_eq_false_iff_ne, bne_iff_ne, bne_eq_false_iff_eq, tmodN, tdivN, Int.not_lt, Int.not_le] at g36
            refine Runs.seq ?_
            refine Runs.reg [] [] rfl (by (try simp only [wrap_i64', wrap_u8, wrap_u16, wrap_u32, wrap_u64, wrap_i32, List.length_cons, List.length_nil, List.length_append, List.length_map, tmodN, tdivN]); and_intros <;> first | exact True.intro | omega | skip) ?_
            exact Runs.retH Tryd.func27 rfl rfl (by have := u8lt c; simp only [sx]; (try simp only [wrap_u8, wrap_u64]); (repeat' split) <;> first | (exfalso; omega) | (simp <;> omega)) (by rfl)
          · try simp only [decide_eq_true_eq, decide_eq_false_iff_not, notT, notF, beq_iff_eq, beq_eq_false_iff_ne, bne_iff_ne, bne_eq_false_iff_eq, tmodN, tdivN, Int.not_lt, Int.not_le] at g36
            refine Runs.seq ?_
            refine Runs.reg [] [0] rfl (by (try simp only [wrap_i64', wrap_u8, wrap_u16, wrap_u32, wrap_u64, wrap_i32, List.length_cons, List.length_nil, List.length_append, List.length_map, tmodN, tdivN]); and_intros <;> first | exact True.intro | omega | skip) ?_
            refine Runs.condS rfl (fun g39 => ?_) (fun g39 => ?_)
            · try simp only [decide_eq_true_eq, decide_eq_false_iff_not, notT, notF, beq_iff_eq, beq_eq_false_iff_ne, bne_iff_ne, bne_eq_false_iff_eq, tmodN, tdivN, Int.not_lt, Int.not_le] at g39
              refine Runs.seq ?_
              refine Runs.reg [] [] rfl (by (try simp only [wrap_i64', wrap_u8, wrap_u16, wrap_u32, wrap_u64, wrap_i32, List.length_cons, List.length_nil, List.length_append, List.length_map, tmodN, tdivN]); and_intros <;> first | exact True.intro | omega | skip) ?_
              exact Runs.retH Tryd.func27 rfl rfl (by have := u8lt c; simp only [sx]; (try simp only [wrap_u8, wrap_u64]); (repeat' split) <;> first | (exfalso; omega) | (simp <;> omega)) (by rfl)
            · try simp only [decide_eq_true_eq, decide_eq_false_iff_not, notT, notF, beq_iff_eq, beq_eq_false_iff_ne, bne_iff_ne, bne_eq_false_iff_eq, tmodN, tdivN, Int.not_lt, Int.not_le] at g39
              refine Runs.skip ?_
              refine Runs.inBlock ?_
              refine Runs.seq ?_
              refine Runs.reg [] [] rfl (by (try simp only [wrap_i64', wrap_u8, wrap_u16, wrap_u32, wrap_u64, wrap_i32, List.length_cons, List.length_nil, List.length_append, List.length_map, tmodN, tdivN]); and_intros <;> first | exact True.intro | omega | skip) ?_
              exact Runs.retH Tryd.func27 rfl rfl (by have := u8lt c; simp only [sx]; (try simp only [wrap_u8, wrap_u64]); (repeat' split) <;> first | (exfalso; omega) | (simp <;> omega)) (by rfl)
      · try simp only [decide_eq_true_eq, decide_eq_false_iff_not, notT, notF, beq_iff_eq, beq_eq_false_iff_ne, bne_iff_ne, bne_eq_false_iff_eq, tmodN, tdivN, Int.not_lt, Int.not_le] at g28
        refine Runs.rest [] [0, 3] rfl (by (try simp only [wrap_i64', wrap_u8, wrap_u16, wrap_u32, wrap_u64, wrap_i32, List.length_cons, List.length_nil, List.length_append, List.length_map, tmodN, tdivN]); and_intros <;> first | exact True.intro | omega | skip) ?_
        refine Runs.condF rfl ?_
        refine Runs.seq ?_
        refine Runs.reg [] [0] rfl (by (try simp only [wrap_i64', wrap_u8, wrap_u16, wrap_u32, wrap_u64, wrap_i32, List.length_cons, List.length_nil, List.length_append, List.length_map, tmodN, tdivN]); and_intros <;> first | exact True.intro | omega | skip) ?_
        refine Runs.condS rfl (fun g36 => ?_) (fun g36 => ?_)
        · try simp only [decide_eq_true_eq, decide_eq_false_iff_not, notT, notF, beq_iff_eq, beq_eq_false_iff_ne, bne_iff_ne, bne_eq_false_iff_eq, tmodN, tdivN, Int.not_lt, Int.not_le] at g36
          refine Runs.seq ?_
          refine Runs.reg [] [] rfl (by (try simp only [wrap_i64', wrap_u8, wrap_u16, wrap_u32, wrap_u64, wrap_i32, List.length_cons, List.length_nil, List.length_append, List.length_map, tmodN, tdivN]); and_intros <;> first | exact True.intro | omega | skip) ?_
          exact Runs.retH Tryd.func27 rfl rfl (by have := u8lt c; simp only [sx]; (try simp only [wrap_u8, wrap_u64]); (repeat' split) <;> first | (exfalso; omega) | (simp <;> omega)) (by rfl)
        · try simp only [decide_eq_true_eq, decide_eq_false_iff_not, notT, notF, beq_iff_eq, beq_eq_false_iff_ne, bne_iff_ne, bne_eq_false_iff_eq, tmodN, tdivN, Int.not_lt, Int.not_le] at g36
          refine Runs.seq ?_
          refine Runs.reg [] [0] rfl (by (try simp only [wrap_i64', wrap_u8, wrap_u16, wrap_u32, wrap_u64, wrap_i32, List.length_cons, List.length_nil, List.length_append, List.length_map, tmodN, tdivN]); and_intros <;> first | exact True.intro | omega | skip) ?_
          refine Runs.condS rfl (fun g39 => ?_) (fun g39 => ?_)
          · try simp only [decide_eq_true_eq, decide_eq_false_iff_not, notT, notF, beq_iff_eq, beq_eq_false_iff_ne, bne_iff_ne, bne_eq_false_iff_eq, tmodN, tdivN, Int.not_lt, Int.not_le] at g39
            refine Runs.seq ?_
            refine Runs.reg [] [] rfl (by (try simp only [wrap_i64', wrap_u8, wrap_u16, wrap_u32, wrap_u64, wrap_i32, List.length_cons, List.length_nil, List.length_append, List.length_map, tmodN, tdivN]); and_intros <;> first | exact True.intro | omega | skip) ?_
            exact Runs.retH Tryd.func27 rfl rfl (by have := u8lt c; simp only [sx]; (try simp only [wrap_u8, wrap_u64]); (repeat' split) <;> first | (exfalso; omega) | (simp <;> omega)) (by rfl)
          · try simp only [decide_eq_true_eq, decide_eq_false_iff_not, notT, notF, beq_iff_eq, beq_eq_false_iff_ne, bne_iff_ne, bne_eq_false_iff_eq, tmodN, tdivN, Int.not_lt, Int.not_le] at g39
            refine Runs.skip ?_
            refine Runs.inBlock ?_
            refine Runs.seq ?_
            refine Runs.reg [] [] rfl (by (try simp only [wrap_i64', wrap_u8, wrap_u16, wrap_u32, wrap_u64, wrap_i32, List.length_cons, List.length_nil, List.length_append, List.length_map, tmodN, tdivN]); and_intros <;> first | exact True.intro | omega | skip) ?_
            exact Runs.retH Tryd.func27 rfl rfl (by have := u8lt c; simp only [sx]; (try simp only [wrap_u8, wrap_u64]); (repeat' split) <;> first | (exfalso; omega) | (simp <;> omega)) (by rfl)


def uAt (b : List UInt8) (i : Nat) : Nat := u24 (b.getD i 0) (b.getD (i + 1) 0) (b.getD (i + 2) 0)
def qc (b : List UInt8) (i k : Nat) : UInt8 := if b.length < i + k then 61 else c64 (uAt b i / 2 ^ (18 - 6 * k) % 64)
def quad (b : List UInt8) (i k : Nat) : List UInt8 := (List.range k).map fun j => qc b i j
theorem quad_succ (b : List UInt8) (i k : Nat) : quad b i (k + 1) = quad b i k ++ [qc b i k] := by simp [quad, List.range_succ]
theorem b64L_quad (b : List UInt8) (i : Nat) (h : i < b.length) : b64L (b.drop i) = quad b i 4 ++ b64L (b.drop (i + 3)) := by
  have hd : b.drop (i + 3) = (b.drop i).drop 3 := by rw [List.drop_drop]
  have g : ∀ j, b.getD (i + j) 0 = (b.drop i).getD j 0 := fun j => by simp [List.getD_eq_getElem?_getD]
  have hl : (b.drop i).length = b.length - i := List.length_drop
  have e : quad b i 4 = [qc b i 0, qc b i 1, qc b i 2, qc b i 3] := rfl
  rw [hd, e]
  unfold qc uAt
  rw [show b.getD i 0 = (b.drop i).getD 0 0 from g 0, g 1, g 2]
  generalize b.drop i = r at hl
  match r, hl with
  | [], hl => simp at hl; omega
  | [x], hl =>
    have : b.length = i + 1 := by simp at hl; omega
    have hx := u24_lt x 0 0
    rw [if_neg (by omega), if_neg (by omega), if_pos (by omega), if_pos (by omega)]
    simp [b64L, List.getD]
    congr 1; omega
  | [x, y], hl =>
    have : b.length = i + 2 := by simp at hl; omega
    have hx := u24_lt x y 0
    rw [if_neg (by omega), if_neg (by omega), if_neg (by omega), if_pos (by omega)]
    simp [b64L, List.getD]
    congr 1; omega
  | x :: y :: z :: r, hl =>
    have : i + 3 ≤ b.length := by simp at hl; omega
    have hx := u24_lt x y z
    rw [if_neg (by omega), if_neg (by omega), if_neg (by omega), if_neg (by omega)]
    simp [b64L, List.getD]
    congr 1; omega

theorem quad_len (b : List UInt8) (i k : Nat) : (quad b i k).length = k := by simp [quad]
theorem u_sum (x y z : UInt8) : IntKind.i64.wrap (IntKind.i64.wrap (IntKind.i64.wrap ((x.toNat : Int) * 65536) + IntKind.i64.wrap ((y.toNat : Int) * 256)) + (z.toNat : Int)) = ((u24 x y z : Nat) : Int) := by
  have := x.toNat_lt; have := y.toNat_lt; have := z.toNat_lt
  unfold u24
  rw [i64_id (x := (x.toNat : Int) * 65536) (by omega) (by omega), i64_id (x := (y.toNat : Int) * 256) (by omega) (by omega), i64_id (x := (x.toNat : Int) * 65536 + (y.toNat : Int) * 256) (by omega) (by omega), i64_id (by omega) (by omega)]
  omega
theorem rb_val (u k : Nat) (h : k < 4) : ((u : Int).fdiv (2 ^ min (IntKind.i64.wrap (18 - IntKind.i64.wrap (6 * (k : Int)))).toNat IntKind.i64.bits)).tmod 64 = ((u / 2 ^ (18 - 6 * k) % 64 : Nat) : Int) := by
  have e : (IntKind.i64.wrap (18 - IntKind.i64.wrap (6 * (k : Int)))).toNat = 18 - 6 * k := by
    rw [i64_id (x := 6 * (k : Int)) (by omega) (by omega), i64_id (by omega) (by omega)]; omega
  have e2 : min (18 - 6 * k) IntKind.i64.bits = 18 - 6 * k := Nat.min_eq_left (by show _ ≤ 64; omega)
  rw [e, e2, Int.fdiv_eq_ediv_of_nonneg _ (by exact_mod_cast Nat.zero_le (2 ^ (18 - 6 * k))), show ((u : Int) / 2 ^ (18 - 6 * k)) = ((u / 2 ^ (18 - 6 * k) : Nat) : Int) by push_cast; rfl]
  rfl
theorem rb_cut (d : Nat) (h : d < 64) : (L64.take (IntKind.i64.wrap ((d : Int) + 1)).toNat).drop (d : Int).toNat = [c64 d] := by
  rw [i64_id (by omega) (by omega)]
  have : ∀ d : Fin 64, (L64.take ((d.val : Int) + 1).toNat).drop (d.val : Int).toNat = [c64 d.val] := by decide
  exact this ⟨d, h⟩


def stE (last : Bool) (k : Nat) (c : UInt8) (n u : Nat) : Option (Nat × Nat) :=
  if c.toNat = 61 ∧ last = true ∧ 1 < k then some (min n (k - 1), u * 64)
  else match sx c with
    | none => none
    | some x => if n < 3 then none else some (n, u * 64 + x)
def runE (s : List UInt8) (i : Nat) : Nat → Option (Nat × Nat)
  | 0 => some (3, 0)
  | k + 1 => match runE s i k with
    | none => none
    | some (n, u) => stE (decide (i + 4 = s.length)) k (s.getD (i + k) 0) n u
def grp (n u : Nat) : List UInt8 := [UInt8.ofNat (u / 65536), UInt8.ofNat (u / 256), UInt8.ofNat u].take n
def decE (s : List UInt8) : Nat → Option (List UInt8)
  | 0 => some []
  | j + 1 => match decE s j, runE s (4 * j) 4 with
    | some out, some (n, u) => some (out ++ grp n u)
    | _, _ => none
def okB (s : List UInt8) (r : Option (List UInt8)) : Option (List UInt8) := match r with
  | some out => if b64L out = s then some out else none
  | none => none
def unE (s : List UInt8) : Option (List UInt8) := if s.length % 4 = 0 then okB s (decE s (s.length / 4)) else none
theorem sx_lt {c : UInt8} {x : Nat} (h : sx c = some x) : x < 64 := by
  have := c.toNat_lt
  unfold sx at h
  split at h
  · simp at h; omega
  · split at h
    · simp at h; omega
    · split at h
      · simp at h; omega
      · split at h
        · simp at h; omega
        · split at h <;> simp at h; omega
theorem runE_ok {s : List UInt8} {i : Nat} : ∀ {k n u : Nat}, runE s i k = some (n, u) → u < 64 ^ k ∧ n ≤ 3
  | 0, n, u, h => by simp [runE] at h; omega
  | k + 1, n, u, h => by
    unfold runE at h
    split at h
    · simp at h
    · rename_i n' u' e
      have ih := runE_ok e
      unfold stE at h
      rw [Nat.pow_succ]
      split at h
      · simp only [Option.some.injEq, Prod.mk.injEq] at h
        omega
      · split at h
        · simp at h
        · rename_i x hx
          have := sx_lt hx
          split at h
          · simp at h
          · simp only [Option.some.injEq, Prod.mk.injEq] at h
            omega
theorem decE_none {s : List UInt8} : ∀ {m j : Nat}, decE s j = none → j ≤ m → decE s m = none
  | 0, j, h, hj => by have : j = 0 := by omega
                      subst this; exact h
  | m + 1, j, h, hj => by
    rcases Nat.lt_or_ge j (m + 1) with h1 | h1
    · unfold decE; rw [decE_none h (by omega)]
    · have : j = m + 1 := by omega
      subst this; exact h
theorem decE_len {s : List UInt8} : ∀ {j : Nat} {out : List UInt8}, decE s j = some out → out.length ≤ 3 * j
  | 0, out, h => by simp [decE] at h; subst h; simp
  | j + 1, out, h => by
    unfold decE at h
    split at h
    · rename_i o n u e1 e2
      have := decE_len e1
      simp only [Option.some.injEq] at h
      subst h
      simp [grp]; omega
    · simp at h
theorem c64_ne : ∀ d : Fin 64, (c64 d.val).toNat ≠ 61 := by decide +kernel
theorem sx_c64 : ∀ d : Fin 64, sx (c64 d.val) = some d.val := by decide +kernel
theorem fnd_sx (c : UInt8) : fnd L64 c = sx c := by
  have h : ∀ n : Fin 256, fnd L64 (UInt8.ofNat n.val) = sx (UInt8.ofNat n.val) := by decide +kernel
  have := h ⟨c.toNat, c.toNat_lt⟩
  simpa using this
/-- the second writing's character -/
def stR (k : Nat) (c : UInt8) (n u : Nat) : Option (Nat × Nat) :=
  match fnd L64 c with
  | some x => some (n, 64 * u + x)
  | none => if c.toNat = 61 ∧ 2 ≤ k then some (min n (k - 1), 64 * u) else none
def runR (s : List UInt8) (i : Nat) : Nat → Option (Nat × Nat)
  | 0 => some (3, 0)
  | k + 1 => match runR s i k with
    | none => none
    | some (n, u) => stR k (s.getD (i + k) 0) n u
def decR (s : List UInt8) : Nat → Option (List UInt8)
  | 0 => some []
  | j + 1 => match decR s j, runR s (4 * j) 4 with
    | some out, some (n, u) => some (out ++ grp n u)
    | _, _ => none
def unR (s : List UInt8) : Option (List UInt8) := if s.length % 4 = 0 then okB s (decR s (s.length / 4)) else none
theorem runR_ok {s : List UInt8} {i : Nat} : ∀ {k n u : Nat}, runR s i k = some (n, u) → u < 64 ^ k ∧ n ≤ 3
  | 0, n, u, h => by simp [runR] at h; omega
  | k + 1, n, u, h => by
    unfold runR at h
    split at h
    · simp at h
    · rename_i n' u' e
      have ih := runR_ok e
      unfold stR at h
      rw [Nat.pow_succ]
      split at h
      · rename_i x hx
        rw [fnd_sx] at hx
        have := sx_lt hx
        simp only [Option.some.injEq, Prod.mk.injEq] at h
        omega
      · split at h
        · simp only [Option.some.injEq, Prod.mk.injEq] at h
          omega
        · simp at h
theorem decR_none {s : List UInt8} : ∀ {m j : Nat}, decR s j = none → j ≤ m → decR s m = none
  | 0, j, h, hj => by have : j = 0 := by omega
                      subst this; exact h
  | m + 1, j, h, hj => by
    rcases Nat.lt_or_ge j (m + 1) with h1 | h1
    · unfold decR; rw [decR_none h (by omega)]
    · have : j = m + 1 := by omega
      subst this; exact h
theorem decR_len {s : List UInt8} : ∀ {j : Nat} {out : List UInt8}, decR s j = some out → out.length ≤ 3 * j
  | 0, out, h => by simp [decR] at h; subst h; simp
  | j + 1, out, h => by
    unfold decR at h
    split at h
    · rename_i o n u e1 e2
      have := decR_len e1
      simp only [Option.some.injEq] at h
      subst h
      simp [grp]; omega
    · simp at h
/-- the characters of a written text -/
theorem b64_drop (b : List UInt8) : ∀ j : Nat, (b64L b).drop (4 * j) = b64L (b.drop (3 * j))
  | 0 => by simp
  | j + 1 => by
    have ih := b64_drop b j
    rw [Nat.mul_succ, ← List.drop_drop, ih]
    rcases Nat.lt_or_ge (3 * j) b.length with h | h
    · rw [b64L_quad b _ h, List.drop_append_of_le_length (by rw [quad_len]; omega), List.drop_eq_nil_of_le (by rw [quad_len]; omega), Nat.mul_succ]; rfl
    · rw [List.drop_eq_nil_of_le (i := 3 * j) (by omega), List.drop_eq_nil_of_le (i := 3 * (j + 1)) (by omega)]; simp [b64L]
theorem b64_at (b : List UInt8) (j k : Nat) (h : 3 * j < b.length) (hk : k < 4) : (b64L b).getD (4 * j + k) 0 = qc b (3 * j) k := by
  have e : (b64L b).getD (4 * j + k) 0 = ((b64L b).drop (4 * j)).getD k 0 := by simp [List.getD_eq_getElem?_getD]
  rw [e, b64_drop, b64L_quad b _ h]
  have hl := quad_len b (3 * j) 4
  rw [List.getD_eq_getElem?_getD, List.getElem?_append_left (by omega)]
  simp [quad, hk]
theorem uAt_lt (b : List UInt8) (i : Nat) : uAt b i < 16777216 := u24_lt _ _ _
theorem sx_qc (b : List UInt8) (i k : Nat) (h : i + k ≤ b.length) : sx (qc b i k) = some (uAt b i / 2 ^ (18 - 6 * k) % 64) ∧ (qc b i k).toNat ≠ 61 := by
  unfold qc
  rw [if_neg (by omega)]
  exact ⟨sx_c64 ⟨_, Nat.mod_lt _ (by decide)⟩, c64_ne ⟨_, Nat.mod_lt _ (by decide)⟩⟩
theorem qc_pad (b : List UInt8) (i k : Nat) (h : b.length < i + k) : qc b i k = 61 := if_pos h
theorem runE_step {s : List UInt8} {i k n u : Nat} {c : UInt8} (h : runE s i k = some (n, u)) (hc : s.getD (i + k) 0 = c) : runE s i (k + 1) = stE (decide (i + 4 = s.length)) k c n u := by
  subst hc; show (match runE s i k with | none => none | some (n, u) => stE _ _ _ n u) = _
  rw [h]
theorem runR_step {s : List UInt8} {i k n u : Nat} {c : UInt8} (h : runR s i k = some (n, u)) (hc : s.getD (i + k) 0 = c) : runR s i (k + 1) = stR k c n u := by
  subst hc; show (match runR s i k with | none => none | some (n, u) => stR _ _ n u) = _
  rw [h]
theorem stE_c {last : Bool} {k n u x : Nat} {c : UInt8} (h : sx c = some x ∧ c.toNat ≠ 61) (hn : 3 ≤ n) : stE last k c n u = some (n, u * 64 + x) := by
  unfold stE; rw [if_neg (by omega), h.1]; simp; omega
theorem stR_c {k n u x : Nat} {c : UInt8} (h : sx c = some x ∧ c.toNat ≠ 61) : stR k c n u = some (n, u * 64 + x) := by
  unfold stR; rw [fnd_sx, h.1]; simp [Nat.mul_comm]
theorem stE_p {k n u : Nat} (hk : 1 < k) : stE true k 61 n u = some (min n (k - 1), u * 64) := by
  unfold stE; rw [if_pos ⟨rfl, rfl, hk⟩]
theorem stR_p {k n u : Nat} (hk : 1 < k) : stR k 61 n u = some (min n (k - 1), u * 64) := by
  unfold stR; rw [show fnd L64 61 = none from by decide +kernel]; simp only; rw [if_pos ⟨rfl, hk⟩, Nat.mul_comm]
theorem uAt_low (b : List UInt8) (i : Nat) : (b.length = i + 1 → uAt b i % 65536 = 0) ∧ (b.length = i + 2 → uAt b i % 256 = 0) := by
  have z : ∀ j, b.length ≤ j → b.getD j 0 = 0 := fun j h => by simp [List.getD_eq_getElem?_getD, List.getElem?_eq_none h]
  unfold uAt u24
  constructor
  · intro h; rw [z (i + 1) (by omega), z (i + 2) (by omega)]; simp
  · intro h; rw [z (i + 2) (by omega)]; simp; omega
theorem run_b64 (b : List UInt8) (j : Nat) (h : 3 * j < b.length) :
    runE (b64L b) (4 * j) 4 = some (min 3 (b.length - 3 * j), uAt b (3 * j)) ∧ runR (b64L b) (4 * j) 4 = some (min 3 (b.length - 3 * j), uAt b (3 * j)) := by
  have hl := b64_len b
  have hu := uAt_lt b (3 * j)
  have hz := uAt_low b (3 * j)
  have a0 := b64_at b j 0 h (by omega)
  have a1 := b64_at b j 1 h (by omega)
  have a2 := b64_at b j 2 h (by omega)
  have a3 := b64_at b j 3 h (by omega)
  have s0 := sx_qc b (3 * j) 0 (by omega)
  have s1 := sx_qc b (3 * j) 1 (by omega)
  have e0 : runE (b64L b) (4 * j) 0 = some (3, 0) := rfl
  have r0 : runR (b64L b) (4 * j) 0 = some (3, 0) := rfl
  have e1 := (runE_step e0 a0).trans (by exact stE_c s0 (by omega))
  have r1 := (runR_step r0 a0).trans (by exact stR_c s0)
  have e2 := (runE_step e1 a1).trans (by exact stE_c s1 (by omega))
  have r2 := (runR_step r1 a1).trans (by exact stR_c s1)
  simp only [Nat.zero_mul, Nat.zero_add, Nat.mul_zero, Nat.sub_zero, Nat.mul_one] at e2 r2
  rcases Nat.lt_or_ge b.length (3 * j + 2) with h2 | h2
  · have hd : decide (4 * j + 4 = (b64L b).length) = true := decide_eq_true (by omega)
    have p2 := qc_pad b (3 * j) 2 (by omega)
    have p3 := qc_pad b (3 * j) 3 (by omega)
    have e3 := (runE_step e2 (a2.trans p2)).trans ((congrArg (fun d => stE d _ _ _ _) hd).trans (stE_p (by omega)))
    have r3 := (runR_step r2 (a2.trans p2)).trans (by exact stR_p (by omega))
    have e4 := (runE_step e3 (a3.trans p3)).trans ((congrArg (fun d => stE d _ _ _ _) hd).trans (stE_p (by omega)))
    have r4 := (runR_step r3 (a3.trans p3)).trans (by exact stR_p (by omega))
    rw [e4, r4]
    have := hz.1 (by omega)
    refine ⟨congrArg some (Prod.ext ?_ ?_), congrArg some (Prod.ext ?_ ?_)⟩ <;> simp only [] <;> omega
  · rcases Nat.lt_or_ge b.length (3 * j + 3) with h3 | h3
    · have hd : decide (4 * j + 4 = (b64L b).length) = true := decide_eq_true (by omega)
      have s2 := sx_qc b (3 * j) 2 (by omega)
      have p3 := qc_pad b (3 * j) 3 (by omega)
      have e3 := (runE_step e2 a2).trans (by exact stE_c s2 (by omega))
      have r3 := (runR_step r2 a2).trans (by exact stR_c s2)
      have e4 := (runE_step e3 (a3.trans p3)).trans ((congrArg (fun d => stE d _ _ _ _) hd).trans (stE_p (by omega)))
      have r4 := (runR_step r3 (a3.trans p3)).trans (by exact stR_p (by omega))
      rw [e4, r4]
      have := hz.2 (by omega)
      refine ⟨congrArg some (Prod.ext ?_ ?_), congrArg some (Prod.ext ?_ ?_)⟩ <;> simp only [] <;> omega
    · have s2 := sx_qc b (3 * j) 2 (by omega)
      have s3 := sx_qc b (3 * j) 3 (by omega)
      have e3 := (runE_step e2 a2).trans (by exact stE_c s2 (by omega))
      have r3 := (runR_step r2 a2).trans (by exact stR_c s2)
      have e4 := (runE_step e3 a3).trans (by exact stE_c s3 (by omega))
      have r4 := (runR_step r3 a3).trans (by exact stR_c s3)
      rw [e4, r4]
      refine ⟨congrArg some (Prod.ext ?_ ?_), congrArg some (Prod.ext ?_ ?_)⟩ <;> simp only [] <;> omega
theorem grp_b (b : List UInt8) (i : Nat) : grp (min 3 (b.length - i)) (uAt b i) = (b.drop i).take 3 := by
  have g : ∀ j, b.getD (i + j) 0 = (b.drop i).getD j 0 := fun j => by simp [List.getD_eq_getElem?_getD]
  have hl : (b.drop i).length = b.length - i := List.length_drop
  unfold grp uAt
  rw [← hl, show b.getD i 0 = (b.drop i).getD 0 0 from g 0, g 1, g 2]
  generalize b.drop i = r
  have k : ∀ x y z : UInt8, UInt8.ofNat (u24 x y z / 65536) = x ∧ UInt8.ofNat (u24 x y z / 256) = y ∧ UInt8.ofNat (u24 x y z) = z := fun x y z => by
    have := x.toNat_lt; have := y.toNat_lt; have := z.toNat_lt
    unfold u24
    refine ⟨?_, ?_, ?_⟩ <;> apply UInt8.toNat_inj.mp <;> simp only [UInt8.toNat_ofNat'] <;> omega
  match r with
  | [] => rfl
  | [x] => simp [List.getD, (k x 0 0).1]
  | [x, y] => simp [List.getD, (k x y 0).1, (k x y 0).2.1]
  | x :: y :: z :: r => simp [List.getD, (k x y z).1, (k x y z).2.1, (k x y z).2.2]
theorem dec_b64 (b : List UInt8) : ∀ j : Nat, 3 * j ≤ b.length + 2 → decE (b64L b) j = some (b.take (3 * j)) ∧ decR (b64L b) j = some (b.take (3 * j))
  | 0, _ => by simp [decE, decR]
  | j + 1, hj => by
    have ih := dec_b64 b j (by omega)
    have hr := run_b64 b j (by omega)
    have ht : b.take (3 * j) ++ (b.drop (3 * j)).take 3 = b.take (3 * (j + 1)) := by rw [Nat.mul_succ, List.take_add]
    constructor
    · unfold decE; rw [ih.1, hr.1]; simp only; rw [grp_b, ht]
    · unfold decR; rw [ih.2, hr.2]; simp only; rw [grp_b, ht]
theorem dec_whole (b : List UInt8) : decE (b64L b) ((b64L b).length / 4) = some b ∧ decR (b64L b) ((b64L b).length / 4) = some b := by
  have hl := b64_len b
  have h := dec_b64 b ((b64L b).length / 4) (by omega)
  rw [List.take_of_length_le (by omega)] at h
  exact h
theorem unE_unR (s : List UInt8) : unE s = unR s := by
  unfold unE unR
  split
  · unfold okB
    cases he : decE s (s.length / 4) with
    | some x =>
      simp only
      split
      · rename_i h
        have := (dec_whole x).2
        rw [h] at this; rw [this]; simp [h]
      · cases hr : decR s (s.length / 4) with
        | none => rfl
        | some y =>
          simp only
          split
          · rename_i h
            have := (dec_whole y).1
            rw [h, he] at this; simp at this; subst this; contradiction
          · rfl
    | none =>
      cases hr : decR s (s.length / 4) with
      | none => rfl
      | some y =>
        simp only
        split
        · rename_i h
          have := (dec_whole y).1
          rw [h, he] at this; simp at this
        · rfl
  · rfl

theorem shl6 {u : Nat} (h : u < 16777216) : IntKind.u64.wrap ((u : Int) * 2 ^ min (Int.toNat 6) IntKind.u64.bits) = ((u * 64 : Nat) : Int) := by
  show IntKind.u64.wrap ((u : Int) * 64) = _
  rw [wrap_u64]; omega
theorem or6 {u x : Nat} (h : u < 16777216) (hx : x < 64) : bitsE .or .u64 (IntKind.u64.wrap ((u : Int) * 2 ^ min (Int.toNat 6) IntKind.u64.bits)) (x : Int) = ((u * 64 + x : Nat) : Int) := by
  rw [shl6 h, (Go.Am.bits_nat .u64 (a := u * 64) (b := x) (Nat.lt_trans (show u * 64 < 1073741824 by omega) (by decide)) (Nat.lt_trans hx (by decide)) rfl).2.1]
  have := Nat.two_pow_add_eq_or_of_lt (i := 6) hx u
  rw [show (2 : Nat) ^ 6 = 64 from rfl, Nat.mul_comm 64 u] at this
  rw [this]
theorem sx_isSome_false {c : UInt8} (h : (sx c).isSome = false) : sx c = none := by cases e : sx c <;> simp [e] at h ⊢
theorem stE_bad {last : Bool} {k n u : Nat} {c : UInt8} (hp : ¬ (c.toNat = 61 ∧ last = true ∧ 1 < k)) (h : sx c = none ∨ n < 3) : stE last k c n u = none := by
  unfold stE
  rw [if_neg hp]
  rcases h with h | h
  · rw [h]
  · cases sx c with
    | none => rfl
    | some x => simp [h]
theorem stE_good {last : Bool} {k n u x : Nat} {c : UInt8} (hp : ¬ (c.toNat = 61 ∧ last = true ∧ 1 < k)) (h : sx c = some x) (hn : ¬ n < 3) : stE last k c n u = some (n, u * 64 + x) := by
  unfold stE
  rw [if_neg hp, h]; simp [hn]
theorem runE_none {s : List UInt8} {i : Nat} : ∀ {m k : Nat}, runE s i k = none → k ≤ m → runE s i m = none
  | 0, k, h, hk => by have : k = 0 := by omega
                      subst this; exact h
  | m + 1, k, h, hk => by
    rcases Nat.lt_or_ge k (m + 1) with h1 | h1
    · unfold runE; rw [runE_none h (by omega)]
    · have : k = m + 1 := by omega
      subst this; exact h
theorem runR_none {s : List UInt8} {i : Nat} : ∀ {m k : Nat}, runR s i k = none → k ≤ m → runR s i m = none
  | 0, k, h, hk => by have : k = 0 := by omega
                      subst this; exact h
  | m + 1, k, h, hk => by
    rcases Nat.lt_or_ge k (m + 1) with h1 | h1
    · unfold runR; rw [runR_none h (by omega)]
    · have : k = m + 1 := by omega
      subst this; exact h
theorem unE_bad {s : List UInt8} {j k : Nat} (h : runE s (4 * j) k = none) (hk : k ≤ 4) (hj : 4 * j < s.length) (h4 : s.length % 4 = 0) : unE s = none := by
  have h1 : decE s (j + 1) = none := by
    unfold decE; rw [runE_none h hk]; split <;> simp_all
  unfold unE
  rw [decE_none h1 (show j + 1 ≤ s.length / 4 by omega)]; simp [okB]
theorem unR_bad {s : List UInt8} {j k : Nat} (h : runR s (4 * j) k = none) (hk : k ≤ 4) (hj : 4 * j < s.length) (h4 : s.length % 4 = 0) : unR s = none := by
  have h1 : decR s (j + 1) = none := by
    unfold decR; rw [runR_none h hk]; split <;> simp_all
  unfold unR
  rw [decR_none h1 (show j + 1 ≤ s.length / 4 by omega)]; simp [okB]
theorem decE_step {s : List UInt8} {j n u : Nat} {out : List UInt8} (h : decE s j = some out) (h2 : runE s (4 * j) 4 = some (n, u)) : decE s (j + 1) = some (out ++ grp n u) := by
  unfold decE; rw [h, h2]
theorem decR_step {s : List UInt8} {j n u : Nat} {out : List UInt8} (h : decR s j = some out) (h2 : runR s (4 * j) 4 = some (n, u)) : decR s (j + 1) = some (out ++ grp n u) := by
  unfold decR; rw [h, h2]
theorem unE_len {s : List UInt8} (h : s.length % 4 ≠ 0) : unE s = none := if_neg h
theorem unR_len {s : List UInt8} (h : s.length % 4 ≠ 0) : unR s = none := if_neg h
theorem unE_done {s : List UInt8} {j : Nat} {out : List UInt8} (h : decE s j = some out) (h4 : s.length % 4 = 0) (hj : 4 * j = s.length) : unE s = if b64L out = s then some out else none := by
  unfold unE
  rw [if_pos h4, show s.length / 4 = j by omega, h]; rfl
theorem unR_done {s : List UInt8} {j : Nat} {out : List UInt8} (h : decR s j = some out) (h4 : s.length % 4 = 0) (hj : 4 * j = s.length) : unR s = if b64L out = s then some out else none := by
  unfold unR
  rw [if_pos h4, show s.length / 4 = j by omega, h]; rfl
theorem grp_bytes (n u : Nat) : List.take n (List.map toB [IntKind.u8.wrap ((u / 65536 : Nat) : Int), IntKind.u8.wrap ((u / 256 : Nat) : Int), IntKind.u8.wrap (u : Int)]) = grp n u := by
  simp only [wrap_u8, List.map_cons, List.map_nil, toB_mod, grp]
theorem ixw (a b : Nat) (h : a + b ≤ 67108874) : IntKind.i64.wrap ((a : Int) + (b : Int)) = ((a + b : Nat) : Int) := by rw [i64_id (by omega) (by omega)]; omega
theorem ixw4 (a : Nat) (h : a ≤ 67108864) : IntKind.i64.wrap ((a : Int) + 4) = ((a + 4 : Nat) : Int) := ixw a 4 (by omega)
theorem stE_pad {last : Bool} {k n u : Nat} {c : UInt8} (hp : c.toNat = 61 ∧ last = true ∧ 1 < k) : stE last k c n u = some (min n (k - 1), u * 64) := if_pos hp
theorem cap3 (n : Nat) (h : n ≤ 16777216) : 0 ≤ IntKind.i64.wrap (IntKind.i64.wrap ((n : Int) / 4) * 3) ∧ IntKind.i64.wrap (IntKind.i64.wrap ((n : Int) / 4) * 3) ≤ 4294967296 := by
  rw [i64_id (x := (n : Int) / 4) (by omega) (by omega), i64_id (by omega) (by omega)]; omega
theorem grp_app (n u : Nat) : List.drop (Int.toNat 0) (List.take (n : Int).toNat (List.map toB [IntKind.u8.wrap ((u : Int).fdiv (2 ^ min (Int.toNat 16) IntKind.u64.bits)), IntKind.u8.wrap ((u : Int).fdiv (2 ^ min (Int.toNat 8) IntKind.u64.bits)), IntKind.u8.wrap (u : Int)])) = grp n u := by
  have e1 : (u : Int).fdiv (2 ^ min (Int.toNat 16) IntKind.u64.bits) = ((u / 65536 : Nat) : Int) := shr16 u
  have e2 : (u : Int).fdiv (2 ^ min (Int.toNat 8) IntKind.u64.bits) = ((u / 256 : Nat) : Int) := shr8 u
  rw [e1, e2, ← grp_bytes]; rfl
theorem grp_len (n u : Nat) : (grp n u).length ≤ 3 := by simp [grp]; omega
theorem fndI_neg {s : List UInt8} {c : UInt8} (h : fndI s c < 0) : fnd s c = none := by
  unfold fndI at h
  split at h
  · omega
  · assumption
theorem fndI_pos {s : List UInt8} {c : UInt8} (h : ¬ fndI s c < 0) : ∃ x, fnd s c = some x ∧ fndI s c = (x : Int) := by
  unfold fndI at h ⊢
  split at h
  · rename_i x e; exact ⟨x, e, rfl⟩
  · omega
theorem stR_bad {k n u : Nat} {c : UInt8} (h : fnd L64 c = none) (hp : ¬ (c.toNat = 61 ∧ 2 ≤ k)) : stR k c n u = none := by
  unfold stR; rw [h]; exact if_neg hp
theorem stR_pad {k n u : Nat} {c : UInt8} (h : fnd L64 c = none) (hp : c.toNat = 61 ∧ 2 ≤ k) : stR k c n u = some (min n (k - 1), 64 * u) := by
  unfold stR; rw [h]; exact if_pos hp
theorem stR_good {k n u x : Nat} {c : UInt8} (h : fnd L64 c = some x) : stR k c n u = some (n, 64 * u + x) := by
  unfold stR; rw [h]
theorem fnd_lt {c : UInt8} {x : Nat} (h : fnd L64 c = some x) : x < 64 := by rw [fnd_sx] at h; exact sx_lt h
theorem radd {u x : Nat} (h : u < 16777216) (hx : x < 64) : IntKind.i64.wrap (IntKind.i64.wrap (64 * (u : Int)) + (x : Int)) = ((64 * u + x : Nat) : Int) := by
  rw [i64_id (x := 64 * (u : Int)) (by omega) (by omega), i64_id (by omega) (by omega)]; omega
theorem radd0 {u : Nat} (h : u < 16777216) : IntKind.i64.wrap (IntKind.i64.wrap (64 * (u : Int)) + 0) = ((64 * u : Nat) : Int) := radd (x := 0) h (by decide)
theorem grp_take {n q : Nat} (u : Nat) (h : q < n) (hn : n ≤ 3) : (grp n u).take (q + 1) = (grp n u).take q ++ [UInt8.ofNat (u / 2 ^ (16 - 8 * q))] := by
  have : (n = 1 ∧ q = 0) ∨ (n = 2 ∧ q = 0) ∨ (n = 2 ∧ q = 1) ∨ (n = 3 ∧ q = 0) ∨ (n = 3 ∧ q = 1) ∨ (n = 3 ∧ q = 2) := by omega
  rcases this with ⟨rfl, rfl⟩ | ⟨rfl, rfl⟩ | ⟨rfl, rfl⟩ | ⟨rfl, rfl⟩ | ⟨rfl, rfl⟩ | ⟨rfl, rfl⟩ <;> simp [grp]
theorem grp_all (n u : Nat) : (grp n u).take n = grp n u := List.take_of_length_le (by simp [grp]; omega)
theorem rg_val (u q : Nat) (h : q < 3) : toB (IntKind.u8.wrap (((u : Int).fdiv (2 ^ min (IntKind.i64.wrap (16 - IntKind.i64.wrap (8 * (q : Int)))).toNat IntKind.i64.bits)).tmod 256)) = UInt8.ofNat (u / 2 ^ (16 - 8 * q)) := by
  have e : (IntKind.i64.wrap (16 - IntKind.i64.wrap (8 * (q : Int)))).toNat = 16 - 8 * q := by
    rw [i64_id (x := 8 * (q : Int)) (by omega) (by omega), i64_id (by omega) (by omega)]; omega
  have e2 : min (16 - 8 * q) IntKind.i64.bits = 16 - 8 * q := Nat.min_eq_left (by show _ ≤ 64; omega)
  rw [e, e2, Int.fdiv_eq_ediv_of_nonneg _ (by exact_mod_cast Nat.zero_le (2 ^ (16 - 8 * q))), show ((u : Int) / 2 ^ (16 - 8 * q)) = ((u / 2 ^ (16 - 8 * q) : Nat) : Int) by push_cast; rfl]
  generalize u / 2 ^ (16 - 8 * q) = m
  rw [show ((m : Int).tmod 256) = ((m % 256 : Nat) : Int) from rfl, wrap_u8, show (((m % 256 : Nat) : Int) % 256) = ((m % 256 : Nat) : Int) by omega]
  unfold toB
  apply UInt8.toNat_inj.1
  simp only [UInt8.toNat_ofNat']
  omega

theorem unbase64_ok (s : List UInt8) (hs : s.length ≤ 16777216) : FnOK Tryd.prog 16 [.str s] [] (.tup [.bs ((unE s).getD []) false, .bool (unE s).isSome]) [] := by
  refine FnOK.of_runs Tryd.func16 rfl (Nat.le_of_ble_eq_true rfl) ?_
  refine Runs.seq ?_
  refine Runs.reg [] [] rfl (by (try simp only [wrap_i64', wrap_u8, wrap_u16, wrap_u32, wrap_u64, wrap_i32, List.length_cons, List.length_nil, List.length_append, List.length_map, tmodN, tdivN]); and_intros <;> first | exact True.intro | omega | skip) ?_
  refine Runs.seq ?_
  refine Runs.seq ?_
  refine Runs.reg [] [0] rfl (by (try simp only [wrap_i64', wrap_u8, wrap_u16, wrap_u32, wrap_u64, wrap_i32, List.length_cons, List.length_nil, List.length_append, List.length_map, tmodN, tdivN]); and_intros <;> first | exact True.intro | omega | skip) ?_
  refine Runs.condS rfl (fun g15 => ?_) (fun g15 => ?_)
  · try simp only [decide_eq_true_eq, decide_eq_false_iff_not, notT, notF, beq_iff_eq, beq_eq_false_iff_ne, bne_iff_ne, bne_eq_false_iff_eq, tmodN, tdivN, Int.not_lt, Int.not_le] at g15
    refine Runs.seq ?_
    refine Runs.reg [] [] rfl (by (try simp only [wrap_i64', wrap_u8, wrap_u16, wrap_u32, wrap_u64, wrap_i32, List.length_cons, List.length_nil, List.length_append, List.length_map, tmodN, tdivN]); and_intros <;> first | exact True.intro | omega | skip) ?_
    exact Runs.retH Tryd.func16 rfl rfl (by rw [unE_len (by omega)]; rfl) (by rfl)
  · try simp only [decide_eq_true_eq, decide_eq_false_iff_not, notT, notF, beq_iff_eq, beq_eq_false_iff_ne, bne_iff_ne, bne_eq_false_iff_eq, tmodN, tdivN, Int.not_lt, Int.not_le] at g15
    refine Runs.skip ?_
    refine Runs.seq ?_
    refine Runs.reg [] [0] rfl (by have := cap3 s.length hs; and_intros <;> first | exact True.intro | exact this.1 | exact this.2 | decide) ?_
    refine Runs.seq ?_
    refine Runs.seq ?_
    refine Runs.reg [] [] rfl (by (try simp only [wrap_i64', wrap_u8, wrap_u16, wrap_u32, wrap_u64, wrap_i32, List.length_cons, List.length_nil, List.length_append, List.length_map, tmodN, tdivN]); and_intros <;> first | exact True.intro | omega | skip) ?_
    refine Runs.block ?_
    -- loop 0
    have h4 : s.length % 4 = 0 := by omega
    refine Runs.loopF (σ := Nat × List UInt8) (fun p => decE s p.1 = some p.2 ∧ 4 * p.1 ≤ s.length) (fun p => [(0, .str s), (4, .bs p.2 true), (5, .int .i64 (4 * p.1 : Nat))]) (fun _ => []) (fun p => s.length + 1 - p.1) ((0, [])) (by exact ⟨rfl, Nat.zero_le _⟩) (by exact agree_cons rfl (by first | with_reducible rfl | (refine congrArg (AV.int _) ?_; (try simp only [wrap_i64', wrap_u8, wrap_u16, wrap_u32, wrap_u64, wrap_i32, List.length_cons, List.length_nil, List.length_append, List.length_map, tmodN, tdivN]); omega) | rfl | skip) (agree_cons rfl (by first | with_reducible rfl | (refine congrArg (AV.int _) ?_; (try simp only [wrap_i64', wrap_u8, wrap_u16, wrap_u32, wrap_u64, wrap_i32, List.length_cons, List.length_nil, List.length_append, List.length_map, tmodN, tdivN]); omega) | rfl | skip) (agree_cons rfl (by first | with_reducible rfl | (refine congrArg (AV.int _) ?_; (try simp only [wrap_i64', wrap_u8, wrap_u16, wrap_u32, wrap_u64, wrap_i32, List.length_cons, List.length_nil, List.length_append, List.length_map, tmodN, tdivN]); omega) | rfl | skip) (trivial)))) (by rfl) (fun ⟨j, out⟩ hi ih => ?_)
    have hj : 4 * j ≤ s.length := hi.2; replace hi : decE s j = some out := hi.1; have hln := decE_len hi; dsimp only
    refine Runs.seq ?_
    refine Runs.seq ?_
    refine Runs.reg [] [0, 1] rfl (by (try simp only [wrap_i64', wrap_u8, wrap_u16, wrap_u32, wrap_u64, wrap_i32, List.length_cons, List.length_nil, List.length_append, List.length_map, tmodN, tdivN]); and_intros <;> first | exact True.intro | omega | skip) ?_
    refine Runs.condS rfl (fun g24 => ?_) (fun g24 => ?_)
    · try simp only [decide_eq_true_eq, decide_eq_false_iff_not, notT, notF, beq_iff_eq, beq_eq_false_iff_ne, bne_iff_ne, bne_eq_false_iff_eq, tmodN, tdivN, Int.not_lt, Int.not_le] at g24
      refine Runs.skip ?_
      refine Runs.seq ?_
      refine Runs.block ?_
      refine Runs.seq ?_
      refine Runs.reg [] [] rfl (by (try simp only [wrap_i64', wrap_u8, wrap_u16, wrap_u32, wrap_u64, wrap_i32, List.length_cons, List.length_nil, List.length_append, List.length_map, tmodN, tdivN]); and_intros <;> first | exact True.intro | omega | skip) ?_
      refine Runs.seq ?_
      refine Runs.seq ?_
      refine Runs.reg [] [] rfl (by (try simp only [wrap_i64', wrap_u8, wrap_u16, wrap_u32, wrap_u64, wrap_i32, List.length_cons, List.length_nil, List.length_append, List.length_map, tmodN, tdivN]); and_intros <;> first | exact True.intro | omega | skip) ?_
      refine Runs.block ?_
      -- loop 1
      refine Runs.loopF (σ := Nat × Nat × Nat) (fun p => runE s (4 * j) p.1 = some (p.2.1, p.2.2) ∧ p.1 ≤ 4) (fun p => [(0, .str s), (4, .bs out true), (5, .int .i64 (4 * j : Nat)), (6, .int .i64 p.2.1), (7, .int .u64 p.2.2), (27, .int .i64 p.1)]) (fun _ => []) (fun p => 4 - p.1) ((0, 3, 0)) (by exact ⟨rfl, by decide⟩) (by exact agree_cons rfl (by first | with_reducible rfl | (refine congrArg (AV.int _) ?_; (try simp only [wrap_i64', wrap_u8, wrap_u16, wrap_u32, wrap_u64, wrap_i32, List.length_cons, List.length_nil, List.length_append, List.length_map, tmodN, tdivN]); omega) | rfl | skip) (agree_cons rfl (by first | with_reducible rfl | (refine congrArg (AV.int _) ?_; (try simp only [wrap_i64', wrap_u8, wrap_u16, wrap_u32, wrap_u64, wrap_i32, List.length_cons, List.length_nil, List.length_append, List.length_map, tmodN, tdivN]); omega) | rfl | skip) (agree_cons rfl (by first | with_reducible rfl | (refine congrArg (AV.int _) ?_; (try simp only [wrap_i64', wrap_u8, wrap_u16, wrap_u32, wrap_u64, wrap_i32, List.length_cons, List.length_nil, List.length_append, List.length_map, tmodN, tdivN]); omega) | rfl | skip) (agree_cons rfl (by first | with_reducible rfl | (refine congrArg (AV.int _) ?_; (try simp only [wrap_i64', wrap_u8, wrap_u16, wrap_u32, wrap_u64, wrap_i32, List.length_cons, List.length_nil, List.length_append, List.length_map, tmodN, tdivN]); omega) | rfl | skip) (agree_cons rfl (by first | with_reducible rfl | (refine congrArg (AV.int _) ?_; (try simp only [wrap_i64', wrap_u8, wrap_u16, wrap_u32, wrap_u64, wrap_i32, List.length_cons, List.length_nil, List.length_append, List.length_map, tmodN, tdivN]); omega) | rfl | skip) (agree_cons rfl (by first | with_reducible rfl | (refine congrArg (AV.int _) ?_; (try simp only [wrap_i64', wrap_u8, wrap_u16, wrap_u32, wrap_u64, wrap_i32, List.length_cons, List.length_nil, List.length_append, List.length_map, tmodN, tdivN]); omega) | rfl | skip) (trivial))))))) (by rfl) (fun ⟨k, n, u⟩ hr ih2 => ?_)
      have hk : k ≤ 4 := hr.2; replace hr : runE s (4 * j) k = some (n, u) := hr.1; have hok := runE_ok hr; have hu : u < 16777216 := Nat.lt_of_lt_of_le hok.1 (Nat.pow_le_pow_right (n := 64) (by decide) hk); dsimp only
      refine Runs.seq ?_
      refine Runs.reg [] [] rfl (by (try simp only [wrap_i64', wrap_u8, wrap_u16, wrap_u32, wrap_u64, wrap_i32, List.length_cons, List.length_nil, List.length_append, List.length_map, tmodN, tdivN]); and_intros <;> first | exact True.intro | omega | skip) ?_
      refine Runs.seq ?_
      refine Runs.condS rfl (fun g28 => ?_) (fun g28 => ?_)
      · try simp only [decide_eq_true_eq, decide_eq_false_iff_not, notT, notF, beq_iff_eq, beq_eq_false_iff_ne, bne_iff_ne, bne_eq_false_iff_eq, tmodN, tdivN, Int.not_lt, Int.not_le] at g28
        refine Runs.skip ?_
        refine Runs.seq ?_
        refine Runs.block ?_
        refine Runs.seq ?_
        refine Runs.reg [] [0] rfl (by (try simp only [wrap_i64', wrap_u8, wrap_u16, wrap_u32, wrap_u64, wrap_i32, List.length_cons, List.length_nil, List.length_append, List.length_map, tmodN, tdivN]); and_intros <;> first | exact True.intro | omega | skip) ?_
        refine Runs.seq ?_
        refine Runs.reg [] [0, 1, 2] rfl (by (try simp only [wrap_i64', wrap_u8, wrap_u16, wrap_u32, wrap_u64, wrap_i32, List.length_cons, List.length_nil, List.length_append, List.length_map, tmodN, tdivN]); and_intros <;> first | exact True.intro | omega | skip) ?_
        refine Runs.frame [(0, .str s), (4, .bs out true), (5, .int .i64 (4 * j : Nat)), (6, .int .i64 n), (7, .int .u64 u), (27, .int .i64 k), (8, .int .i64 k), (9, .int .u8 (s.getD (4 * j + k) 0).toNat)] (by exact agree_cons rfl (by rfl) (agree_cons rfl (by rfl) (agree_cons rfl (by rfl) (agree_cons rfl (by rfl) (agree_cons rfl (by rfl) (agree_cons rfl (by rfl) (agree_cons rfl (by rfl) (agree_cons rfl (by rw [ixw _ _ (by omega)]; rfl) trivial)))))))) ?_
        refine Runs.seq ?_
        refine Runs.seq ?_
        refine Runs.meet (σ := Bool) (fun g => g = true ↔ ((s.getD (4 * j + k) 0).toNat = 61 ∧ decide (4 * j + 4 = s.length) = true ∧ 1 < k)) (fun g => [(0, .str s), (4, .bs out true), (5, .int .i64 (4 * j : Nat)), (6, .int .i64 n), (7, .int .u64 u), (27, .int .i64 k), (8, .int .i64 k), (9, .int .u8 (s.getD (4 * j + k) 0).toNat), (47, .bool g)]) (fun _ => []) (fun g hg => ?_) (fun meet_a => ?_)
        · skip
          refine Runs.condS rfl (fun g47 => ?_) (fun g47 => ?_)
          · try simp only [decide_eq_true_eq, decide_eq_false_iff_not, notT, notF, beq_iff_eq, beq_eq_false_iff_ne, bne_iff_ne, bne_eq_false_iff_eq, tmodN, tdivN, Int.not_lt, Int.not_le] at g47
            have hk1 := (hg.1 g47).2.2; have hr2 := (runE_step hr rfl).trans (stE_pad (hg.1 g47))
            refine Runs.seq ?_
            refine Runs.reg [] [1] rfl (by (try simp only [wrap_i64', wrap_u8, wrap_u16, wrap_u32, wrap_u64, wrap_i32, List.length_cons, List.length_nil, List.length_append, List.length_map, tmodN, tdivN]); and_intros <;> first | exact True.intro | omega | skip) ?_
            refine Runs.seq ?_
            refine Runs.reg [] [] rfl (by (try simp only [wrap_i64', wrap_u8, wrap_u16, wrap_u32, wrap_u64, wrap_i32, List.length_cons, List.length_nil, List.length_append, List.length_map, tmodN, tdivN]); and_intros <;> first | exact True.intro | omega | skip) ?_
            refine Runs.exit rfl ?_
            refine Runs.reg [] [] rfl (by (try simp only [wrap_i64', wrap_u8, wrap_u16, wrap_u32, wrap_u64, wrap_i32, List.length_cons, List.length_nil, List.length_append, List.length_map, tmodN, tdivN]); and_intros <;> first | exact True.intro | omega | skip) ?_
            exact ih2 (k + 1, min n (k - 1), u * 64) _ _ (by exact ⟨hr2, by simp only; omega⟩) (by simp only; omega) (by exact agree_cons rfl (by first | with_reducible rfl | (refine congrArg (AV.int _) ?_; (try simp only [wrap_i64', wrap_u8, wrap_u16, wrap_u32, wrap_u64, wrap_i32, List.length_cons, List.length_nil, List.length_append, List.length_map, tmodN, tdivN]); omega) | rfl | skip) (agree_cons rfl (by first | with_reducible rfl | (refine congrArg (AV.int _) ?_; (try simp only [wrap_i64', wrap_u8, wrap_u16, wrap_u32, wrap_u64, wrap_i32, List.length_cons, List.length_nil, List.length_append, List.length_map, tmodN, tdivN]); omega) | rfl | skip) (agree_cons rfl (by first | with_reducible rfl | (refine congrArg (AV.int _) ?_; (try simp only [wrap_i64', wrap_u8, wrap_u16, wrap_u32, wrap_u64, wrap_i32, List.length_cons, List.length_nil, List.length_append, List.length_map, tmodN, tdivN]); omega) | rfl | skip) (agree_cons rfl (by first | with_reducible rfl | (refine congrArg (AV.int _) ?_; rw [i64_id (by omega) (by omega)]; simp only [cond_true, Nat.min_def]; (repeat' split) <;> omega)) (agree_cons rfl (by first | (rw [hx, Option.getD_some, or6 hu (sx_lt hx)]) | (rw [shl6 hu])) (agree_cons rfl (by first | with_reducible rfl | (refine congrArg (AV.int _) ?_; (try simp only [wrap_i64', wrap_u8, wrap_u16, wrap_u32, wrap_u64, wrap_i32, List.length_cons, List.length_nil, List.length_append, List.length_map, tmodN, tdivN]); omega) | rfl | skip) (trivial))))))) (by rfl)
          · try simp only [decide_eq_true_eq, decide_eq_false_iff_not, notT, notF, beq_iff_eq, beq_eq_false_iff_ne, bne_iff_ne, bne_eq_false_iff_eq, tmodN, tdivN, Int.not_lt, Int.not_le] at g47
            have hpad := mt hg.2 (Bool.eq_false_iff.1 g47)
            refine Runs.skip ?_
            refine Runs.seq ?_
            refine Runs.reg [(1, { res := .tup [.int .u64 ((sx (s.getD (4 * j + k) 0)).getD 0 : Nat), .bool (sx (s.getD (4 * j + k) 0)).isSome] })] [0] rfl (by and_intros <;> first | exact True.intro | exact six_ok _) ?_
            refine Runs.seq ?_
            refine Runs.seq ?_
            refine Runs.region ?_
            refine Runs.restTo 3 [] [0, 3] rfl (by (try simp only [wrap_i64', wrap_u8, wrap_u16, wrap_u32, wrap_u64, wrap_i32, List.length_cons, List.length_nil, List.length_append, List.length_map, tmodN, tdivN]); and_intros <;> first | exact True.intro | omega | skip) ?_
            refine Runs.splitS 61 rfl (fun g61 => ?_) (fun g61 => ?_)
            · try simp only [decide_eq_true_eq, decide_eq_false_iff_not, notT, notF, beq_iff_eq, beq_eq_false_iff_ne, bne_iff_ne, bne_eq_false_iff_eq, tmodN, tdivN, Int.not_lt, Int.not_le] at g61
              refine Runs.rest [] [0, 3] rfl (by (try simp only [wrap_i64', wrap_u8, wrap_u16, wrap_u32, wrap_u64, wrap_i32, List.length_cons, List.length_nil, List.length_append, List.length_map, tmodN, tdivN]); and_intros <;> first | exact True.intro | omega | skip) ?_
              refine Runs.condT rfl ?_
              refine Runs.seq ?_
              refine Runs.reg [] [] rfl (by (try simp only [wrap_i64', wrap_u8, wrap_u16, wrap_u32, wrap_u64, wrap_i32, List.length_cons, List.length_nil, List.length_append, List.length_map, tmodN, tdivN]); and_intros <;> first | exact True.intro | omega | skip) ?_
              exact Runs.retH Tryd.func16 rfl rfl (by rw [unE_bad ((runE_step hr rfl).trans (stE_bad hpad (.inl (sx_isSome_false g61)))) (by omega) (by omega) h4]; rfl) (by rfl)
            · try simp only [decide_eq_true_eq, decide_eq_false_iff_not, notT, notF, beq_iff_eq, beq_eq_false_iff_ne, bne_iff_ne, bne_eq_false_iff_eq, tmodN, tdivN, Int.not_lt, Int.not_le] at g61
              refine Runs.rest [] [0, 3] rfl (by (try simp only [wrap_i64', wrap_u8, wrap_u16, wrap_u32, wrap_u64, wrap_i32, List.length_cons, List.length_nil, List.length_append, List.length_map, tmodN, tdivN]); and_intros <;> first | exact True.intro | omega | skip) ?_
              refine Runs.condS rfl (fun g64 => ?_) (fun g64 => ?_)
              · try simp only [decide_eq_true_eq, decide_eq_false_iff_not, notT, notF, beq_iff_eq, beq_eq_false_iff_ne, bne_iff_ne, bne_eq_false_iff_eq, tmodN, tdivN, Int.not_lt, Int.not_le] at g64
                refine Runs.seq ?_
                refine Runs.reg [] [] rfl (by (try simp only [wrap_i64', wrap_u8, wrap_u16, wrap_u32, wrap_u64, wrap_i32, List.length_cons, List.length_nil, List.length_append, List.length_map, tmodN, tdivN]); and_intros <;> first | exact True.intro | omega | skip) ?_
                exact Runs.retH Tryd.func16 rfl rfl (by rw [unE_bad ((runE_step hr rfl).trans (stE_bad hpad (.inr (by omega)))) (by omega) (by omega) h4]; rfl) (by rfl)
              · try simp only [decide_eq_true_eq, decide_eq_false_iff_not, notT, notF, beq_iff_eq, beq_eq_false_iff_ne, bne_iff_ne, bne_eq_false_iff_eq, tmodN, tdivN, Int.not_lt, Int.not_le] at g64
                refine Runs.skip ?_
                obtain ⟨x, hx⟩ := Option.isSome_iff_exists.1 g61
                have hr2 := (runE_step hr rfl).trans (stE_good hpad hx (by omega))
                refine Runs.reg [] [2] rfl (by (try simp only [wrap_i64', wrap_u8, wrap_u16, wrap_u32, wrap_u64, wrap_i32, List.length_cons, List.length_nil, List.length_append, List.length_map, tmodN, tdivN]); and_intros <;> first | exact True.intro | omega | skip) ?_
                refine Runs.inBlock ?_
                refine Runs.reg [] [] rfl (by (try simp only [wrap_i64', wrap_u8, wrap_u16, wrap_u32, wrap_u64, wrap_i32, List.length_cons, List.length_nil, List.length_append, List.length_map, tmodN, tdivN]); and_intros <;> first | exact True.intro | omega | skip) ?_
                exact ih2 (k + 1, n, u * 64 + x) _ _ (by exact ⟨hr2, by simp only; omega⟩) (by simp only; omega) (by exact agree_cons rfl (by first | with_reducible rfl | (refine congrArg (AV.int _) ?_; (try simp only [wrap_i64', wrap_u8, wrap_u16, wrap_u32, wrap_u64, wrap_i32, List.length_cons, List.length_nil, List.length_append, List.length_map, tmodN, tdivN]); omega) | rfl | skip) (agree_cons rfl (by first | with_reducible rfl | (refine congrArg (AV.int _) ?_; (try simp only [wrap_i64', wrap_u8, wrap_u16, wrap_u32, wrap_u64, wrap_i32, List.length_cons, List.length_nil, List.length_append, List.length_map, tmodN, tdivN]); omega) | rfl | skip) (agree_cons rfl (by first | with_reducible rfl | (refine congrArg (AV.int _) ?_; (try simp only [wrap_i64', wrap_u8, wrap_u16, wrap_u32, wrap_u64, wrap_i32, List.length_cons, List.length_nil, List.length_append, List.length_map, tmodN, tdivN]); omega) | rfl | skip) (agree_cons rfl (by first | with_reducible rfl | (refine congrArg (AV.int _) ?_; rw [i64_id (by omega) (by omega)]; simp only [cond_true, Nat.min_def]; (repeat' split) <;> omega)) (agree_cons rfl (by first | (rw [hx, Option.getD_some, or6 hu (sx_lt hx)]) | (rw [shl6 hu])) (agree_cons rfl (by first | with_reducible rfl | (refine congrArg (AV.int _) ?_; (try simp only [wrap_i64', wrap_u8, wrap_u16, wrap_u32, wrap_u64, wrap_i32, List.length_cons, List.length_nil, List.length_append, List.length_map, tmodN, tdivN]); omega) | rfl | skip) (trivial))))))) (by rfl)
        · skip
          refine Runs.region ?_
          refine Runs.restTo 3 [] [0, 3, 5, 10] rfl (by (try simp only [wrap_i64', wrap_u8, wrap_u16, wrap_u32, wrap_u64, wrap_i32, List.length_cons, List.length_nil, List.length_append, List.length_map, tmodN, tdivN]); and_intros <;> first | exact True.intro | omega | skip) ?_
          refine Runs.splitS 37 rfl (fun g37 => ?_) (fun g37 => ?_)
          · try simp only [decide_eq_true_eq, decide_eq_false_iff_not, notT, notF, beq_iff_eq, beq_eq_false_iff_ne, bne_iff_ne, bne_eq_false_iff_eq, tmodN, tdivN, Int.not_lt, Int.not_le] at g37
            refine Runs.restTo 7 [] [0, 3, 5, 10] rfl (by (try simp only [wrap_i64', wrap_u8, wrap_u16, wrap_u32, wrap_u64, wrap_i32, List.length_cons, List.length_nil, List.length_append, List.length_map, tmodN, tdivN]); and_intros <;> first | exact True.intro | omega | skip) ?_
            refine Runs.splitS 44 rfl (fun g44 => ?_) (fun g44 => ?_)
            · try simp only [decide_eq_true_eq, decide_eq_false_iff_not, notT, notF, beq_iff_eq, beq_eq_false_iff_ne, bne_iff_ne, bne_eq_false_iff_eq, tmodN, tdivN, Int.not_lt, Int.not_le] at g44
              refine Runs.rest [] [0, 3, 5, 10] rfl (by (try simp only [wrap_i64', wrap_u8, wrap_u16, wrap_u32, wrap_u64, wrap_i32, List.length_cons, List.length_nil, List.length_append, List.length_map, tmodN, tdivN]); and_intros <;> first | exact True.intro | omega | skip) ?_
              exact meet_a (decide ((1 : Int) < (k : Int))) _ _ (by (try rw [ixw4 _ (by omega)] at g44); simp only [decide_eq_true_eq, Bool.false_eq_true, false_iff]; omega) (by exact agree_cons rfl (by first | with_reducible rfl | (refine congrArg (AV.int _) ?_; (try simp only [wrap_i64', wrap_u8, wrap_u16, wrap_u32, wrap_u64, wrap_i32, List.length_cons, List.length_nil, List.length_append, List.length_map, tmodN, tdivN]); omega) | rfl | skip) (agree_cons rfl (by first | with_reducible rfl | (refine congrArg (AV.int _) ?_; (try simp only [wrap_i64', wrap_u8, wrap_u16, wrap_u32, wrap_u64, wrap_i32, List.length_cons, List.length_nil, List.length_append, List.length_map, tmodN, tdivN]); omega) | rfl | skip) (agree_cons rfl (by first | with_reducible rfl | (refine congrArg (AV.int _) ?_; (try simp only [wrap_i64', wrap_u8, wrap_u16, wrap_u32, wrap_u64, wrap_i32, List.length_cons, List.length_nil, List.length_append, List.length_map, tmodN, tdivN]); omega) | rfl | skip) (agree_cons rfl (by first | with_reducible rfl | (refine congrArg (AV.int _) ?_; (try simp only [wrap_i64', wrap_u8, wrap_u16, wrap_u32, wrap_u64, wrap_i32, List.length_cons, List.length_nil, List.length_append, List.length_map, tmodN, tdivN]); omega) | rfl | skip) (agree_cons rfl (by first | with_reducible rfl | (refine congrArg (AV.int _) ?_; (try simp only [wrap_i64', wrap_u8, wrap_u16, wrap_u32, wrap_u64, wrap_i32, List.length_cons, List.length_nil, List.length_append, List.length_map, tmodN, tdivN]); omega) | rfl | skip) (agree_cons rfl (by first | with_reducible rfl | (refine congrArg (AV.int _) ?_; (try simp only [wrap_i64', wrap_u8, wrap_u16, wrap_u32, wrap_u64, wrap_i32, List.length_cons, List.length_nil, List.length_append, List.length_map, tmodN, tdivN]); omega) | rfl | skip) (agree_cons rfl (by first | with_reducible rfl | (refine congrArg (AV.int _) ?_; (try simp only [wrap_i64', wrap_u8, wrap_u16, wrap_u32, wrap_u64, wrap_i32, List.length_cons, List.length_nil, List.length_append, List.length_map, tmodN, tdivN]); omega) | rfl | skip) (agree_cons rfl (by first | with_reducible rfl | (refine congrArg (AV.int _) ?_; (try simp only [wrap_i64', wrap_u8, wrap_u16, wrap_u32, wrap_u64, wrap_i32, List.length_cons, List.length_nil, List.length_append, List.length_map, tmodN, tdivN]); omega) | rfl | skip) (agree_cons rfl (by first | with_reducible rfl | (refine congrArg (AV.int _) ?_; (try simp only [wrap_i64', wrap_u8, wrap_u16, wrap_u32, wrap_u64, wrap_i32, List.length_cons, List.length_nil, List.length_append, List.length_map, tmodN, tdivN]); omega) | rfl | skip) (trivial)))))))))) (by rfl)
            · try simp only [decide_eq_true_eq, decide_eq_false_iff_not, notT, notF, beq_iff_eq, beq_eq_false_iff_ne, bne_iff_ne, bne_eq_false_iff_eq, tmodN, tdivN, Int.not_lt, Int.not_le] at g44
              refine Runs.rest [] [0, 3, 5, 10] rfl (by (try simp only [wrap_i64', wrap_u8, wrap_u16, wrap_u32, wrap_u64, wrap_i32, List.length_cons, List.length_nil, List.length_append, List.length_map, tmodN, tdivN]); and_intros <;> first | exact True.intro | omega | skip) ?_
              exact meet_a (false) _ _ (by (try rw [ixw4 _ (by omega)] at g44); simp only [decide_eq_true_eq, Bool.false_eq_true, false_iff]; omega) (by exact agree_cons rfl (by first | with_reducible rfl | (refine congrArg (AV.int _) ?_; (try simp only [wrap_i64', wrap_u8, wrap_u16, wrap_u32, wrap_u64, wrap_i32, List.length_cons, List.length_nil, List.length_append, List.length_map, tmodN, tdivN]); omega) | rfl | skip) (agree_cons rfl (by first | with_reducible rfl | (refine congrArg (AV.int _) ?_; (try simp only [wrap_i64', wrap_u8, wrap_u16, wrap_u32, wrap_u64, wrap_i32, List.length_cons, List.length_nil, List.length_append, List.length_map, tmodN, tdivN]); omega) | rfl | skip) (agree_cons rfl (by first | with_reducible rfl | (refine congrArg (AV.int _) ?_; (try simp only [wrap_i64', wrap_u8, wrap_u16, wrap_u32, wrap_u64, wrap_i32, List.length_cons, List.length_nil, List.length_append, List.length_map, tmodN, tdivN]); omega) | rfl | skip) (agree_cons rfl (by first | with_reducible rfl | (refine congrArg (AV.int _) ?_; (try simp only [wrap_i64', wrap_u8, wrap_u16, wrap_u32, wrap_u64, wrap_i32, List.length_cons, List.length_nil, List.length_append, List.length_map, tmodN, tdivN]); omega) | rfl | skip) (agree_cons rfl (by first | with_reducible rfl | (refine congrArg (AV.int _) ?_; (try simp only [wrap_i64', wrap_u8, wrap_u16, wrap_u32, wrap_u64, wrap_i32, List.length_cons, List.length_nil, List.length_append, List.length_map, tmodN, tdivN]); omega) | rfl | skip) (agree_cons rfl (by first | with_reducible rfl | (refine congrArg (AV.int _) ?_; (try simp only [wrap_i64', wrap_u8, wrap_u16, wrap_u32, wrap_u64, wrap_i32, List.length_cons, List.length_nil, List.length_append, List.length_map, tmodN, tdivN]); omega) | rfl | skip) (agree_cons rfl (by first | with_reducible rfl | (refine congrArg (AV.int _) ?_; (try simp only [wrap_i64', wrap_u8, wrap_u16, wrap_u32, wrap_u64, wrap_i32, List.length_cons, List.length_nil, List.length_append, List.length_map, tmodN, tdivN]); omega) | rfl | skip) (agree_cons rfl (by first | with_reducible rfl | (refine congrArg (AV.int _) ?_; (try simp only [wrap_i64', wrap_u8, wrap_u16, wrap_u32, wrap_u64, wrap_i32, List.length_cons, List.length_nil, List.length_append, List.length_map, tmodN, tdivN]); omega) | rfl | skip) (agree_cons rfl (by first | with_reducible rfl | (refine congrArg (AV.int _) ?_; (try simp only [wrap_i64', wrap_u8, wrap_u16, wrap_u32, wrap_u64, wrap_i32, List.length_cons, List.length_nil, List.length_append, List.length_map, tmodN, tdivN]); omega) | rfl | skip) (trivial)))))))))) (by rfl)
          · try simp only [decide_eq_true_eq, decide_eq_false_iff_not, notT, notF, beq_iff_eq, beq_eq_false_iff_ne, bne_iff_ne, bne_eq_false_iff_eq, tmodN, tdivN, Int.not_lt, Int.not_le] at g37
            refine Runs.rest [] [0, 3, 5, 10] rfl (by (try simp only [wrap_i64', wrap_u8, wrap_u16, wrap_u32, wrap_u64, wrap_i32, List.length_cons, List.length_nil, List.length_append, List.length_map, tmodN, tdivN]); and_intros <;> first | exact True.intro | omega | skip) ?_
            exact meet_a (false) _ _ (by (try rw [ixw4 _ (by omega)] at g44); simp only [decide_eq_true_eq, Bool.false_eq_true, false_iff]; omega) (by exact agree_cons rfl (by first | with_reducible rfl | (refine congrArg (AV.int _) ?_; (try simp only [wrap_i64', wrap_u8, wrap_u16, wrap_u32, wrap_u64, wrap_i32, List.length_cons, List.length_nil, List.length_append, List.length_map, tmodN, tdivN]); omega) | rfl | skip) (agree_cons rfl (by first | with_reducible rfl | (refine congrArg (AV.int _) ?_; (try simp only [wrap_i64', wrap_u8, wrap_u16, wrap_u32, wrap_u64, wrap_i32, List.length_cons, List.length_nil, List.length_append, List.length_map, tmodN, tdivN]); omega) | rfl | skip) (agree_cons rfl (by first | with_reducible rfl | (refine congrArg (AV.int _) ?_; (try simp only [wrap_i64', wrap_u8, wrap_u16, wrap_u32, wrap_u64, wrap_i32, List.length_cons, List.length_nil, List.length_append, List.length_map, tmodN, tdivN]); omega) | rfl | skip) (agree_cons rfl (by first | with_reducible rfl | (refine congrArg (AV.int _) ?_; (try simp only [wrap_i64', wrap_u8, wrap_u16, wrap_u32, wrap_u64, wrap_i32, List.length_cons, List.length_nil, List.length_append, List.length_map, tmodN, tdivN]); omega) | rfl | skip) (agree_cons rfl (by first | with_reducible rfl | (refine congrArg (AV.int _) ?_; (try simp only [wrap_i64', wrap_u8, wrap_u16, wrap_u32, wrap_u64, wrap_i32, List.length_cons, List.length_nil, List.length_append, List.length_map, tmodN, tdivN]); omega) | rfl | skip) (agree_cons rfl (by first | with_reducible rfl | (refine congrArg (AV.int _) ?_; (try simp only [wrap_i64', wrap_u8, wrap_u16, wrap_u32, wrap_u64, wrap_i32, List.length_cons, List.length_nil, List.length_append, List.length_map, tmodN, tdivN]); omega) | rfl | skip) (agree_cons rfl (by first | with_reducible rfl | (refine congrArg (AV.int _) ?_; (try simp only [wrap_i64', wrap_u8, wrap_u16, wrap_u32, wrap_u64, wrap_i32, List.length_cons, List.length_nil, List.length_append, List.length_map, tmodN, tdivN]); omega) | rfl | skip) (agree_cons rfl (by first | with_reducible rfl | (refine congrArg (AV.int _) ?_; (try simp only [wrap_i64', wrap_u8, wrap_u16, wrap_u32, wrap_u64, wrap_i32, List.length_cons, List.length_nil, List.length_append, List.length_map, tmodN, tdivN]); omega) | rfl | skip) (agree_cons rfl (by first | with_reducible rfl | (refine congrArg (AV.int _) ?_; (try simp only [wrap_i64', wrap_u8, wrap_u16, wrap_u32, wrap_u64, wrap_i32, List.length_cons, List.length_nil, List.length_append, List.length_map, tmodN, tdivN]); omega) | rfl | skip) (trivial)))))))))) (by rfl)
      · try simp only [decide_eq_true_eq, decide_eq_false_iff_not, notT, notF, beq_iff_eq, beq_eq_false_iff_ne, bne_iff_ne, bne_eq_false_iff_eq, tmodN, tdivN, Int.not_lt, Int.not_le] at g28
        refine Runs.exit rfl ?_
        have hr4 : runE s (4 * j) 4 = some (n, u) := by rw [← hr]; congr 1; omega
        refine Runs.reg [] [1, 4, 7] rfl (by simp only [List.length_drop, List.length_take, List.length_map, List.length_cons, List.length_nil, wrap_u8]; and_intros <;> first | exact True.intro | omega | decide | (intro x hx; simp only [List.mem_cons, List.not_mem_nil, or_false] at hx; rcases hx with rfl | rfl | rfl <;> omega)) ?_
        refine Runs.inBlock ?_
        refine Runs.reg [] [] rfl (by (try simp only [wrap_i64', wrap_u8, wrap_u16, wrap_u32, wrap_u64, wrap_i32, List.length_cons, List.length_nil, List.length_append, List.length_map, tmodN, tdivN]); and_intros <;> first | exact True.intro | omega | skip) ?_
        exact ih (j + 1, out ++ grp n u) _ _ (by exact ⟨decE_step hi hr4, by simp only; omega⟩) (by simp only; omega) (by exact agree_cons rfl (by first | with_reducible rfl | (refine congrArg (AV.int _) ?_; (try simp only [wrap_i64', wrap_u8, wrap_u16, wrap_u32, wrap_u64, wrap_i32, List.length_cons, List.length_nil, List.length_append, List.length_map, tmodN, tdivN]); omega) | rfl | skip) (agree_cons rfl (by exact inj (congrArg (out ++ ·) (grp_app n u))) (agree_cons rfl (by rw [ixw4 _ (by omega)]; rfl) (trivial)))) (by rfl)
    · try simp only [decide_eq_true_eq, decide_eq_false_iff_not, notT, notF, beq_iff_eq, beq_eq_false_iff_ne, bne_iff_ne, bne_eq_false_iff_eq, tmodN, tdivN, Int.not_lt, Int.not_le] at g24
      refine Runs.exit rfl ?_
      refine Runs.seq ?_
      refine Runs.seq ?_
      refine Runs.reg [(1, { res := .str (b64L out) })] [0, 2] rfl (by and_intros <;> first | exact True.intro | exact base64_ok out (by omega)) ?_
      refine Runs.condS rfl (fun g86 => ?_) (fun g86 => ?_)
      · try simp only [decide_eq_true_eq, decide_eq_false_iff_not, notT, notF, beq_iff_eq, beq_eq_false_iff_ne, bne_iff_ne, bne_eq_false_iff_eq, tmodN, tdivN, Int.not_lt, Int.not_le] at g86
        refine Runs.seq ?_
        refine Runs.reg [] [] rfl (by (try simp only [wrap_i64', wrap_u8, wrap_u16, wrap_u32, wrap_u64, wrap_i32, List.length_cons, List.length_nil, List.length_append, List.length_map, tmodN, tdivN]); and_intros <;> first | exact True.intro | omega | skip) ?_
        exact Runs.retH Tryd.func16 rfl rfl (by rw [unE_done hi h4 (by omega), if_neg g86]; rfl) (by rfl)
      · try simp only [decide_eq_true_eq, decide_eq_false_iff_not, notT, notF, beq_iff_eq, beq_eq_false_iff_ne, bne_iff_ne, bne_eq_false_iff_eq, tmodN, tdivN, Int.not_lt, Int.not_le] at g86
        refine Runs.skip ?_
        refine Runs.seq ?_
        refine Runs.reg [] [0, 1, 3] rfl (by (try simp only [wrap_i64', wrap_u8, wrap_u16, wrap_u32, wrap_u64, wrap_i32, List.length_cons, List.length_nil, List.length_append, List.length_map, tmodN, tdivN]); and_intros <;> first | exact True.intro | omega | skip) ?_
        exact Runs.retH Tryd.func16 rfl rfl (by rw [unE_done hi h4 (by omega), if_pos g86, Int.toNat_natCast, List.take_length]; rfl) (by rfl)


theorem dec_small {m : Nat} (h : m < 10) : Lib.decDigits m = [UInt8.ofNat (48 + m)] := by rw [Lib.decDigits, dif_pos h]
theorem dec_big {m : Nat} (h : ¬ m < 10) : Lib.decDigits m = Lib.decDigits (m / 10) ++ [UInt8.ofNat (48 + m % 10)] := by rw [Lib.decDigits, dif_neg h]
theorem hxd_dec {d : Nat} (h : d < 10) : hxd d = UInt8.ofNat (48 + d) := by
  have : ∀ d : Fin 10, hxd d.val = UInt8.ofNat (48 + d.val) := by decide
  exact this ⟨d, h⟩
theorem dec_len : ∀ (m : Nat), m < 18446744073709551616 → (Lib.decDigits m).length ≤ 20 := by
  have key : ∀ k m : Nat, 1 ≤ k → m < 10 ^ k → (Lib.decDigits m).length ≤ k := by
    intro k
    induction k with
    | zero => intro m h1 h2; omega
    | succ k ih =>
      intro m h1 h2
      by_cases h : m < 10
      · rw [dec_small h]; simp
      · rw [dec_big h, List.length_append]
        have hk : 1 ≤ k := by
          rcases Nat.eq_zero_or_pos k with h0 | h0
          · subst h0; simp at h2; omega
          · exact h0
        have := ih (m / 10) hk (by rw [Nat.pow_succ] at h2; omega)
        simp only [List.length_cons, List.length_nil]; omega
  intro m h
  exact key 20 m (by decide) (Nat.lt_trans h (by decide))
theorem itoa_nat (m : Nat) : Lib.itoa (m : Int) = Lib.decDigits m := by
  unfold Lib.itoa; rw [if_neg (by omega)]; simp
theorem itoa_neg {n : Int} (h : n < 0) : Lib.itoa n = 45 :: Lib.decDigits n.natAbs := by
  unfold Lib.itoa; rw [if_pos h]
theorem itoa_min : Lib.itoa (-9223372036854775808) = [45, 57, 50, 50, 51, 51, 55, 50, 48, 51, 54, 56, 53, 52, 55, 55, 53, 56, 48, 56] := by
  rw [itoa_neg (by decide)]; simp [Lib.decDigits]
theorem itoa_len {n : Int} (h0 : -9223372036854775808 ≤ n) (h1 : n ≤ 9223372036854775807) : (Lib.itoa n).length ≤ 21 := by
  by_cases h : n < 0
  · rw [itoa_neg h]; have := dec_len n.natAbs (by omega); simp only [List.length_cons]; omega
  · obtain ⟨m, rfl⟩ := Int.eq_ofNat_of_zero_le (show 0 ≤ n by omega)
    rw [itoa_nat]; have := dec_len m (by omega); omega
structure TxI (n m : Nat) (out : List UInt8) : Prop where
  eq : Lib.decDigits m ++ out = Lib.decDigits n
  le : m ≤ n
theorem TxI.step {n m out} (h : TxI n m out) (hm : ¬ m < 10) : TxI n (m / 10) ([hxd (m % 10)] ++ out) := by
  refine ⟨?_, Nat.le_trans (Nat.div_le_self _ _) h.le⟩
  rw [← h.eq, dec_big hm, hxd_dec (Nat.mod_lt _ (by decide))]; simp
theorem TxI.done {n m out} (h : TxI n m out) (hm : m < 10) : [hxd m] ++ out = Lib.decDigits n := by
  rw [← h.eq, dec_small hm, hxd_dec hm]
theorem TxI.len {n m out} (h : TxI n m out) (hn : n < 18446744073709551616) : out.length ≤ 20 := by
  have := congrArg List.length h.eq
  have := dec_len n hn
  rw [List.length_append] at *; omega

theorem text_ok (n : Int) (h0 : -9223372036854775808 ≤ n) (h1 : n ≤ 9223372036854775807) : FnOK Tryd.prog 11 [.int .i64 n] [] (.str (Lib.itoa n)) [] := by
  refine FnOK.of_runs Tryd.func11 rfl (Nat.le_of_ble_eq_true rfl) ?_
  refine Runs.seq ?_
  refine Runs.reg [] [] rfl (by (try simp only [wrap_i64', wrap_u8, wrap_u16, wrap_u32, wrap_u64, wrap_i32, List.length_cons, List.length_nil, List.length_append, List.length_map, tmodN, tdivN]); and_intros <;> first | exact True.intro | omega | skip) ?_
  refine Runs.seq ?_
  refine Runs.reg [(1, { res := .str (Lib.itoa n) })] [0] rfl (by and_intros <;> first | exact True.intro | exact itoa_ok n h0 h1) ?_
  exact Runs.retH Tryd.func11 rfl rfl (by first | with_reducible rfl | (refine congrArg (AV.int _) ?_; (try simp only [wrap_i64', wrap_u8, wrap_u16, wrap_u32, wrap_u64, wrap_i32, List.length_cons, List.length_nil, List.length_append, List.length_map, tmodN, tdivN]); omega) | rfl | skip) (by rfl)


theorem hv_hxd : ∀ d : Fin 16, hv (hxd d.val) = some d.val := by decide
theorem unhex_hex : ∀ b : List UInt8, unhexL (hexL b) = some b
  | [] => rfl
  | c :: b => by
    have h1 := hv_hxd ⟨c.toNat / 16, by have := c.toNat_lt; omega⟩
    have h2 := hv_hxd ⟨c.toNat % 16, Nat.mod_lt _ (by decide)⟩
    have e : hexL (c :: b) = hxd (c.toNat / 16) :: hxd (c.toNat % 16) :: hexL b := by simp [hexL]
    rw [e, unhexL, h1, h2, unhex_hex b]
    simp only [Option.some.injEq, List.cons.injEq, and_true]
    apply UInt8.toNat_inj.1
    have := c.toNat_lt
    simp only [UInt8.toNat_ofNat']
    omega
theorem hexL_len (b : List UInt8) : (hexL b).length = 2 * b.length := by
  induction b with
  | nil => rfl
  | cons c b ih =>
    have e : hexL (c :: b) = hxd (c.toNat / 16) :: hxd (c.toNat % 16) :: hexL b := by simp [hexL]
    rw [e]; simp only [List.length_cons, ih]; omega
theorem unE_b64 (b : List UInt8) : unE (b64L b) = some b := by
  have hl := b64_len b
  rw [unE_done (dec_whole b).1 (by omega) (by omega), if_pos rfl]
theorem num4_be4 (n : Nat) (r : List UInt8) (h : n < 4294967296) : num4 (be4 n ++ r) = n := by
  unfold num4 be4
  simp [List.getD]
  omega
theorem packL_cons (s : List UInt8) (l : List (List UInt8)) : packL (s :: l) = be4 s.length ++ (s ++ packL l) := by simp [packL]
theorem unp_pack : ∀ (l : List (List UInt8)) (k : Nat), (packL l).length < 4294967296 → l.length ≤ k → unp k (packL l) = some l
  | [], 0, _, _ => rfl
  | [], k + 1, _, _ => by unfold unp; rfl
  | s :: l, 0, _, h => by simp at h
  | s :: l, k + 1, hp, h => by
    rw [packL_cons] at hp ⊢
    have hb : (be4 s.length).length = 4 := rfl
    simp only [List.length_append, hb] at hp
    have hn := num4_be4 s.length (s ++ packL l) (by omega)
    unfold unp
    rw [hn, if_neg (by simp only [List.length_append, hb]; omega), if_neg (by simp only [List.length_append, hb]; omega), if_neg (by simp only [List.length_append, hb]; omega)]
    have e1 : (be4 s.length ++ (s ++ packL l)).drop 4 = s ++ packL l := by
      rw [show 4 = (be4 s.length).length from hb.symm, List.drop_left]
    have e2 : (be4 s.length ++ (s ++ packL l)).drop (4 + s.length) = packL l := by
      rw [← List.drop_drop, e1, List.drop_left]
    rw [e2, e1, List.take_left, unp_pack l k (by omega) (by simpa using h)]
    rfl
theorem packL_ge (l : List (List UInt8)) : l.length ≤ (packL l).length := by
  induction l with
  | nil => simp
  | cons s l ih => rw [packL_cons]; simp only [List.length_append, List.length_cons, be4, List.length_nil]; omega
theorem unpack_pack (l : List (List UInt8)) (h : (packL l).length < 4294967296) : unpackL (packL l) = some l := unp_pack l _ h (packL_ge l)
theorem pack_inj {l m : List (List UInt8)} (hl : (packL l).length < 4294967296) (hm : (packL m).length < 4294967296) : (packL l == packL m) = (l == m) := by
  by_cases h : l = m
  · subst h; simp
  · rw [beq_eq_false_iff_ne.2 h, beq_eq_false_iff_ne.2]
    intro e
    have h1 := unpack_pack l hl
    rw [e, unpack_pack m hm] at h1
    exact h (Option.some.inj h1).symm
/-- eight bytes, the greatest first -/
theorem put64_eq (n : Nat) : put64L n = [UInt8.ofNat (n / 72057594037927936), UInt8.ofNat (n / 281474976710656), UInt8.ofNat (n / 1099511627776), UInt8.ofNat (n / 4294967296), UInt8.ofNat (n / 16777216), UInt8.ofNat (n / 65536), UInt8.ofNat (n / 256), UInt8.ofNat n] := by
  simp [put64L, List.range_succ]
theorem get64_put64 (n : Nat) (h : n < 18446744073709551616) : get64 (put64L n) = some n := by
  rw [put64_eq]
  unfold get64
  refine (if_pos rfl).trans ?_
  unfold n64
  simp only [List.foldl_cons, List.foldl_nil, UInt8.toNat_ofNat', Option.some.injEq]
  omega
def digs (n : Nat) : Nat → List UInt8
  | 0 => []
  | k + 1 => UInt8.ofNat (n / 256 ^ k) :: digs n k
theorem less_digs (n m : Nat) : ∀ k, Op.bytesLess (digs n k) (digs m k) = decide (n % 256 ^ k < m % 256 ^ k)
  | 0 => by simp [digs, Op.bytesLess, Nat.mod_one]
  | k + 1 => by
    have ih := less_digs n m k
    unfold digs Op.bytesLess
    rw [ih]
    have e : ∀ x : Nat, x % 256 ^ (k + 1) = (x / 256 ^ k % 256) * 256 ^ k + x % 256 ^ k := fun x => by
      rw [Nat.pow_succ, Nat.mod_mul, Nat.add_comm, Nat.mul_comm]
    have hp : 0 < 256 ^ k := Nat.pow_pos (by decide)
    have ha := Nat.mod_lt n hp
    have hb := Nat.mod_lt m hp
    rw [e n, e m]
    have hx := Nat.mod_lt (n / 256 ^ k) (show 256 > 0 by decide)
    have hy := Nat.mod_lt (m / 256 ^ k) (show 256 > 0 by decide)
    have lt : (UInt8.ofNat (n / 256 ^ k) < UInt8.ofNat (m / 256 ^ k)) = (n / 256 ^ k % 256 < m / 256 ^ k % 256) := by
      rw [UInt8.lt_iff_toNat_lt, UInt8.toNat_ofNat', UInt8.toNat_ofNat']
    have eqq : (UInt8.ofNat (n / 256 ^ k) == UInt8.ofNat (m / 256 ^ k)) = decide (n / 256 ^ k % 256 = m / 256 ^ k % 256) := by
      rw [Bool.eq_iff_iff, beq_iff_eq, decide_eq_true_eq, ← UInt8.toNat_inj, UInt8.toNat_ofNat', UInt8.toNat_ofNat']
    generalize n / 256 ^ k % 256 = x at *
    generalize m / 256 ^ k % 256 = y at *
    generalize n % 256 ^ k = a at *
    generalize m % 256 ^ k = b at *
    generalize 256 ^ k = q at *
    rw [eqq]
    simp only [lt]
    rw [Bool.eq_iff_iff]
    simp only [Bool.or_eq_true, Bool.and_eq_true, decide_eq_true_eq]
    rcases Nat.lt_trichotomy x y with h | h | h
    · have : x * q + q ≤ y * q := by rw [← Nat.succ_mul]; exact Nat.mul_le_mul_right q h
      constructor
      · intro _; omega
      · intro _; exact .inl h
    · subst h
      constructor
      · rintro (h | ⟨_, h⟩) <;> omega
      · intro h; exact .inr ⟨rfl, by omega⟩
    · have : y * q + q ≤ x * q := by rw [← Nat.succ_mul]; exact Nat.mul_le_mul_right q h
      constructor
      · rintro (h1 | ⟨h1, _⟩) <;> omega
      · intro h1; omega
theorem put64_digs (n : Nat) : put64L n = digs n 8 := by rw [put64_eq]; simp [digs]
theorem less_put64 {n k : Nat} (h : n < 18446744073709551616) (hk : k < 18446744073709551616) : Op.bytesLess (put64L n) (put64L k) = decide (n < k) := by
  rw [put64_digs, put64_digs, less_digs, show (256 : Nat) ^ 8 = 18446744073709551616 from rfl, Nat.mod_eq_of_lt h, Nat.mod_eq_of_lt hk]
/-- a number's digits read back -/
theorem decF_snoc : ∀ (l : List UInt8) (c : UInt8) (a : Nat), 48 ≤ c.toNat → c.toNat ≤ 57 → decF (l ++ [c]) a = (decF l a).map fun n => 10 * n + (c.toNat - 48)
  | [], c, a, h1, h2 => by simp [decF, h1, h2]
  | x :: l, c, a, h1, h2 => by
    rw [List.cons_append, decF, decF]
    split
    · exact decF_snoc l c _ h1 h2
    · rfl
theorem decF_dec (n : Nat) : decF (Lib.decDigits n) 0 = some n := by
  induction n using Nat.strongRecOn with
  | _ n ih =>
    have key : ∀ d, d < 10 → (UInt8.ofNat (48 + d)).toNat = 48 + d := fun d hd => by rw [UInt8.toNat_ofNat']; omega
    by_cases h : n < 10
    · rw [dec_small h, decF, key n h, if_pos (by omega), decF]; congr 1; omega
    · have hk := key (n % 10) (Nat.mod_lt _ (by decide))
      rw [dec_big h, decF_snoc _ _ _ (by omega) (by omega), ih (n / 10) (by omega), hk]
      simp only [Option.map_some, Option.some.injEq]; omega
theorem dec_first (n : Nat) : 1 ≤ (Lib.decDigits n).length ∧ (10 ≤ n → ((Lib.decDigits n).getD 0 0).toNat ≠ 48) ∧ (n < 10 → (Lib.decDigits n).length = 1) ∧ (n ≠ 0 → ((Lib.decDigits n).getD 0 0).toNat ≠ 48) := by
  induction n using Nat.strongRecOn with
  | _ n ih =>
    have key : ∀ d, d < 10 → (UInt8.ofNat (48 + d)).toNat = 48 + d := fun d hd => by rw [UInt8.toNat_ofNat']; omega
    by_cases h : n < 10
    · rw [dec_small h]
      refine ⟨by simp, fun h1 => by omega, fun _ => rfl, fun h0 => ?_⟩
      show (UInt8.ofNat (48 + n)).toNat ≠ 48
      rw [key n h]; omega
    · have k := ih (n / 10) (by omega)
      have e : (Lib.decDigits n).getD 0 0 = (Lib.decDigits (n / 10)).getD 0 0 := by
        rw [dec_big h, List.getD_eq_getElem?_getD, List.getElem?_append_left k.1, ← List.getD_eq_getElem?_getD]
      refine ⟨by rw [dec_big h]; simp, fun _ => by rw [e]; exact k.2.2.2 (by omega), fun h1 => absurd h1 h, fun _ => by rw [e]; exact k.2.2.2 (by omega)⟩
theorem dec_len18 {n : Nat} (h : n < 1000000000000000000) : (Lib.decDigits n).length ≤ 18 := by
  have key : ∀ k m : Nat, 1 ≤ k → m < 10 ^ k → (Lib.decDigits m).length ≤ k := by
    intro k
    induction k with
    | zero => intro m h1 h2; omega
    | succ k ih =>
      intro m h1 h2
      by_cases h : m < 10
      · rw [dec_small h]; simp
      · rw [dec_big h, List.length_append]
        have hk : 1 ≤ k := by
          rcases Nat.eq_zero_or_pos k with h0 | h0
          · subst h0; simp at h2; omega
          · exact h0
        have := ih (m / 10) hk (by rw [Nat.pow_succ] at h2; omega)
        simp only [List.length_cons, List.length_nil]; omega
  exact key 18 n (by decide) (by simpa using h)
theorem intF_itoa {n : Nat} (h : n < 1000000000000000000) : intF (Lib.decDigits n) = some n := by
  have h1 := dec_first n
  have h2 := dec_len18 h
  rw [intF_dec (by
    rintro (a | a | ⟨a, b⟩)
    · omega
    · omega
    · by_cases hn : n < 10
      · have := h1.2.2.1 hn; omega
      · exact h1.2.1 (by omega) b), decF_dec]

theorem encBack_ok (b : List UInt8) (l m : List (List UInt8)) (n k : Nat) (hb : b.length ≤ 1048576) (hl : l.length ≤ 1048576) (hm : m.length ≤ 1048576) (hpl : (packL l).length ≤ 8388608) (hpm : (packL m).length ≤ 8388608) (hn : n < 18446744073709551616) (hk : k < 18446744073709551616) : FnOK Tryd.prog 5 [.bs b false, .sl 1 l.length (strEl l) false, .sl 1 m.length (strEl m) false, .int .u64 n, .int .u64 k] [] (.bool true) [] := by
  refine FnOK.of_runs Tryd.func5 rfl (Nat.le_of_ble_eq_true rfl) ?_
  refine Runs.seq ?_
  refine Runs.reg [] [] rfl (by (try simp only [wrap_i64', wrap_u8, wrap_u16, wrap_u32, wrap_u64, wrap_i32, List.length_cons, List.length_nil, List.length_append, List.length_map, tmodN, tdivN]); and_intros <;> first | exact True.intro | omega | skip) ?_
  refine Runs.seq ?_
  refine Runs.reg [(1, { res := .str (hexL b) }), (2, { res := .tup [.bs b false, .bool true] })] [0] rfl (by have h := unhex_ok (hexL b) (by rw [hexL_len]; omega); rw [unhex_hex] at h; and_intros <;> first | exact True.intro | exact hex_ok b false (by omega) | exact h) ?_
  refine Runs.seq ?_
  refine Runs.reg [(1, { res := .str (b64L b) }), (2, { res := .tup [.bs b false, .bool true] })] [0] rfl (by have h := unbase64_ok (b64L b) (by rw [b64_len]; omega); rw [unE_b64] at h; and_intros <;> first | exact True.intro | exact base64_ok b (by omega) | exact h) ?_
  refine Runs.seq ?_
  refine Runs.reg [(1, { res := .bs (packL l) false }), (2, { res := .tup [.sl 1 l.length (strEl l) false, .bool true] })] [0] rfl (by have h := unpack_ok (packL l) (by omega); rw [unpack_pack l (by omega)] at h; and_intros <;> first | exact True.intro | exact pack_ok l _ (by omega) hpl | exact h) ?_
  refine Runs.seq ?_
  refine Runs.reg [(1, { res := .bs (put64L n) false }), (2, { res := .tup [.int .u64 n, .bool true] })] [0] rfl (by have h := get64_ok (put64L n) (by rw [put64_eq]; exact Nat.le_of_ble_eq_true rfl); rw [get64_put64 n hn] at h; and_intros <;> first | exact True.intro | exact put64_ok n hn | exact h) ?_
  refine Runs.seq ?_
  refine Runs.seq ?_
  refine Runs.region ?_
  refine Runs.rest [(17, { res := .bool true }), (23, { res := .bool true }), (29, { res := .bool true }), (35, { res := .bool false })] [0, 3, 7, 11, 15, 16, 21, 22, 27, 28, 33, 34] rfl (by have h := same_ok b b false false; have h2 := sameTexts_ok l l (by omega) (by omega); simp only [beq_self_eq_true] at h h2; and_intros <;> first | exact True.intro | exact h | exact h2 | (refine congrArg AV.bool ?_; simp)) ?_
  refine Runs.condF rfl ?_
  refine Runs.skip ?_
  refine Runs.seq ?_
  refine Runs.seq ?_
  refine Runs.reg [(1, { res := .bs (packL l) false }), (3, { res := .bs (packL m) false }), (4, { res := .bool (packL l == packL m) }), (7, { res := .bool (l == m) }), (8, { res := .bool false })] [0, 2, 5, 6] rfl (by and_intros <;> first | exact True.intro | exact pack_ok l _ (by omega) hpl | exact pack_ok m _ (by omega) hpm | exact same_ok _ _ _ _ | exact sameTexts_ok l m (by omega) (by omega) | (refine congrArg AV.bool ?_; rw [pack_inj (by omega) (by omega)]; simp)) ?_
  refine Runs.condF rfl ?_
  refine Runs.skip ?_
  refine Runs.seq ?_
  refine Runs.seq ?_
  refine Runs.reg [] [0] rfl (by (try simp only [wrap_i64', wrap_u8, wrap_u16, wrap_u32, wrap_u64, wrap_i32, List.length_cons, List.length_nil, List.length_append, List.length_map, tmodN, tdivN]); and_intros <;> first | exact True.intro | omega | skip) ?_
  refine Runs.condS rfl (fun g92 => ?_) (fun g92 => ?_)
  · try simp only [decide_eq_true_eq, decide_eq_false_iff_not, notT, notF, beq_iff_eq, beq_eq_false_iff_ne, bne_iff_ne, bne_eq_false_iff_eq, tmodN, tdivN, Int.not_lt, Int.not_le] at g92
    refine Runs.seq ?_
    refine Runs.reg [(1, { res := .int .i64 n }), (2, { res := .str (Lib.itoa n) }), (3, { res := .tup [.int .i64 n, .bool true] })] [0] rfl (by have h := int_ok (Lib.decDigits n) (by have := dec_len n hn; omega); rw [intF_itoa (by omega), ← itoa_nat] at h; and_intros <;> first | exact True.intro | exact text_ok n (by omega) (by omega) | exact h | (refine congrArg (AV.int _) ?_; rw [i64_id (by omega) (by omega)])) ?_
    refine Runs.seq ?_
    refine Runs.region ?_
    refine Runs.rest [(5, { res := .int .i64 n }), (6, { res := .bool false })] [0, 3, 4] rfl (by and_intros <;> first | exact True.intro | (refine congrArg (AV.int _) ?_; rw [i64_id (by omega) (by omega)]) | (refine congrArg AV.bool ?_; simp)) ?_
    refine Runs.condF rfl ?_
    refine Runs.skip ?_
    refine Runs.seq ?_
    refine Runs.regD [(1, { res := .bs (put64L n) false }), (4, { res := .bs (put64L k) false }), (10, { res := .bool true }), (12, { res := .bool true })] [0, 3, 7, 8] rfl rfl rfl (by and_intros <;> first | exact True.intro | exact put64_ok n hn | exact put64_ok k hk | exact awake1_ok | (refine congrArg AV.bool ?_; rw [less_put64 hn hk]; simp)) ?_
    exact Runs.retH Tryd.func5 rfl rfl (by rfl) (by rfl)
  · try simp only [decide_eq_true_eq, decide_eq_false_iff_not, notT, notF, beq_iff_eq, beq_eq_false_iff_ne, bne_iff_ne, bne_eq_false_iff_eq, tmodN, tdivN, Int.not_lt, Int.not_le] at g92
    refine Runs.skip ?_
    refine Runs.seq ?_
    refine Runs.regD [(1, { res := .bs (put64L n) false }), (4, { res := .bs (put64L k) false }), (10, { res := .bool true }), (12, { res := .bool true })] [0, 3, 7, 8] rfl rfl rfl (by and_intros <;> first | exact True.intro | exact put64_ok n hn | exact put64_ok k hk | exact awake1_ok | (refine congrArg AV.bool ?_; rw [less_put64 hn hk]; simp)) ?_
    exact Runs.retH Tryd.func5 rfl rfl (by rfl) (by rfl)

end Go.Proofs.YtfkpdfpnpcdhaaaDoor
namespace Go.Proofs.YtfkpdfpnpcdhaaaDoor
open Go.ChangeShapes Go.WideShapes Go.ChangeAt Go.RowKit Go.Am
theorem gT : Tryd.prog.globalNamed "internal/strconv.uint64pow10" = some 0 := by kernel_rfl
theorem cells35 : Tryd.prog.cellsOf 35 = 1 := by kernel_rfl
theorem cellsT : Tryd.prog.cellsOf 63 = 20 := by kernel_rfl
theorem gTy : (Tryd.prog.globals[0]?).map (·.type) = some 63 := by kernel_rfl
theorem tabIn {W : World} (h : laidMetH Tryd.prog [("math/bits.deBruijn32tab", Rows.laid_math_bits_deBruijn32tab), ("math/bits.deBruijn64tab", Rows.laid_math_bits_deBruijn64tab), ("internal/strconv.uint64pow10", Rows.laid_internal_strconv_uint64pow10)] W) : TabIn W := by
  have h1 : laidMet Tryd.prog [("math/bits.deBruijn32tab", Rows.laid_math_bits_deBruijn32tab), ("math/bits.deBruijn64tab", Rows.laid_math_bits_deBruijn64tab), ("internal/strconv.uint64pow10", Rows.laid_internal_strconv_uint64pow10)] W := h
  have ht : Lib.TabIs Tryd.prog W "internal/strconv.uint64pow10" .u64 Lib.pow10Tab :=
    Lib.tabIs_of_head (rest := []) gT gTy Tryd.underlying63 Tryd.underlying35 cells35 cellsT (show laidMet Tryd.prog (("internal/strconv.uint64pow10", Lib.tabData .u64 Lib.pow10Tab) :: []) W from laidMet.tail (laidMet.tail h1))
  intro b cs hk
  simp only [Tab.k] at hk
  split at hk
  · rename_i hb
    subst hb
    simp only [Option.some.injEq] at hk
    subst hk
    unfold Lib.TabIs World.var? at ht
    rw [gT] at ht
    simp only [Option.bind_some] at ht
    split at ht
    · rename_i c e fz hh
      simp only [Option.some.injEq] at ht
      exact ⟨e, fz, by rw [hh, ht]⟩
    · simp at ht
  · simp at hk
noncomputable def laidWorld (os : Os) : World :=
  let w := World.holding Tryd.prog os ⟨#[], #[], []⟩
  let lay := fun (o : Obj) (cs : Array Value) => match o with
    | .cells _ t frozen => Obj.cells cs t frozen
    | o => o
  { w with heap := ((w.heap.modify 0 fun o => lay o #[.int .u64 1, .int .u64 10, .int .u64 100, .int .u64 1000, .int .u64 10000, .int .u64 100000, .int .u64 1000000, .int .u64 10000000, .int .u64 100000000, .int .u64 1000000000, .int .u64 10000000000, .int .u64 100000000000, .int .u64 1000000000000, .int .u64 10000000000000, .int .u64 100000000000000, .int .u64 1000000000000000, .int .u64 10000000000000000, .int .u64 100000000000000000, .int .u64 1000000000000000000, .int .u64 10000000000000000000]).modify 1 fun o => lay o #[.int .u8 0, .int .u8 1, .int .u8 28, .int .u8 2, .int .u8 29, .int .u8 14, .int .u8 24, .int .u8 3, .int .u8 30, .int .u8 22, .int .u8 20, .int .u8 15, .int .u8 25, .int .u8 17, .int .u8 4, .int .u8 8, .int .u8 31, .int .u8 27, .int .u8 13, .int .u8 23, .int .u8 21, .int .u8 19, .int .u8 16, .int .u8 7, .int .u8 26, .int .u8 12, .int .u8 18, .int .u8 6, .int .u8 11, .int .u8 5, .int .u8 10, .int .u8 9]).modify 2 fun o => lay o #[.int .u8 0, .int .u8 1, .int .u8 56, .int .u8 2, .int .u8 57, .int .u8 49, .int .u8 28, .int .u8 3, .int .u8 61, .int .u8 58, .int .u8 42, .int .u8 50, .int .u8 38, .int .u8 29, .int .u8 17, .int .u8 4, .int .u8 62, .int .u8 47, .int .u8 59, .int .u8 36, .int .u8 45, .int .u8 43, .int .u8 51, .int .u8 22, .int .u8 53, .int .u8 39, .int .u8 33, .int .u8 30, .int .u8 24, .int .u8 18, .int .u8 12, .int .u8 5, .int .u8 63, .int .u8 55, .int .u8 48, .int .u8 27, .int .u8 60, .int .u8 41, .int .u8 37, .int .u8 16, .int .u8 46, .int .u8 35, .int .u8 44, .int .u8 21, .int .u8 52, .int .u8 32, .int .u8 23, .int .u8 11, .int .u8 54, .int .u8 26, .int .u8 40, .int .u8 15, .int .u8 34, .int .u8 20, .int .u8 31, .int .u8 10, .int .u8 25, .int .u8 14, .int .u8 19, .int .u8 9, .int .u8 13, .int .u8 8, .int .u8 7, .int .u8 6] }

end Go.Proofs.YtfkpdfpnpcdhaaaDoor
namespace Go.Proofs.YtfkpdfpnpcdhaaaDoor
theorem bulk_strs {H : Type} (l : List (List UInt8)) : (packL l).length ≤ 5 * Rows.uptoBulkAll (l.map fun s => (DataW.lit (.string s) : DataW H)) ∧ l.length ≤ Rows.uptoBulkAll (l.map fun s => (DataW.lit (.string s) : DataW H)) := by
  induction l with
  | nil => simp [packL]
  | cons s l ih =>
    have e : packL (s :: l) = be4 s.length ++ s ++ packL l := by simp [packL]
    rw [e]
    simp only [List.map_cons, Rows.uptoBulkAll, Rows.uptoBulk, List.length_append, List.length_cons, be4, List.length_nil]
    omega
end Go.Proofs.YtfkpdfpnpcdhaaaDoor
namespace Go.Proofs.YtfkpdfpnpcdhaaaDoor.encBack
open Go.ChangeShapes Go.WideShapes Go.ChangeAt Go.RowKit Go.Am
theorem own : ownKnob Tryd.prog.godebug = none := by kernel_rfl
theorem contract (H : Type) (enc : TypeId × Value → H) (W : World) (base : Nat) (args : Array Value) (ds gs : List (DataW H)) (before : List MemPlace)
    (hval : ∀ (j : Nat) t v, Tryd.f5.params[j]? = some t → args[j]? = some v → Value.okWide Tryd.prog W .any base t v)
    (hW : DataW.Whole enc Tryd.prog Tryd.f5.params.toList Rows.encBackSpec.vars false W args.toList ds gs before) (hk : Rows.uptoSmall H (ds ++ gs) = true) (hL : laidMetH Tryd.prog Rows.encBackUptoRow.laid W) :
    Calls Tryd.prog 5 args W fun e W' => ∃ v, e = .returned v ∧ Rows.encBackSpec.post enc Tryd.prog Tryd.f5 false true false false W args v W' := by
  have hW' := hW
  obtain ⟨p, q, hA0, hV, rfl, hfz, hnd⟩ := hW
  have hA : DataW.TrodAll enc Tryd.prog W 0 (fun _ => true) true Tryd.f5.params.toList args.toList ds p := hA0
  rw [Tryd.params5] at hA hval
  obtain ⟨v0, vs0, d0, ds0, p0, q0, hargs, rfl, rfl, h0, r0⟩ := trodAll_cons hA
  obtain ⟨v1, vs1, d1, ds1, p1, q1, rfl, rfl, rfl, h1, r1⟩ := trodAll_cons r0
  obtain ⟨v2, vs2, d2, ds2, p2, q2, rfl, rfl, rfl, h2, r2⟩ := trodAll_cons r1
  obtain ⟨v3, vs3, d3, ds3, p3, q3, rfl, rfl, rfl, h3, r3⟩ := trodAll_cons r2
  obtain ⟨v4, vs4, d4, ds4, p4, q4, rfl, rfl, rfl, h4, r4⟩ := trodAll_cons r3
  obtain ⟨rfl, rfl, rfl⟩ := trodAll_nil r4
  obtain rfl : args = #[v0, v1, v2, v3, v4] := by cases args; simp_all
  obtain ⟨rfl, rfl⟩ := trodVars_none hV
  obtain ⟨l0, g0, e0⟩ := arg_bytes Tryd.underlying33 Tryd.underlying5 (by kernel_rfl) (hval 0 33 v0 rfl rfl) h0
  obtain ⟨l1, g1, e1⟩ := arg_strs Tryd.underlying34 Tryd.underlying9 (by kernel_rfl) (hval 1 34 v1 rfl rfl) h1
  obtain ⟨l2, g2, e2⟩ := arg_strs Tryd.underlying34 Tryd.underlying9 (by kernel_rfl) (hval 2 34 v2 rfl rfl) h2
  obtain ⟨n3, rfl, rfl, w3, g3⟩ := arg_int Tryd.underlying35 (hval 3 35 v3 rfl rfl) h3
  obtain ⟨n4, rfl, rfl, w4, g4⟩ := arg_int Tryd.underlying35 (hval 4 35 v4 rfl rfl) h4
  have hb := of_decide_eq_true hk
  simp only [List.append_nil, Rows.uptoBulkAll] at hb
  have hl0 : l0.length ≤ 1048576 := by
    rcases e0 with ⟨rfl, rfl⟩ | ⟨es, sp, rfl, e0⟩
    · simp
    · have := length_le es
      simp only [Rows.uptoBulk] at hb; omega
  have hl1 : l1.length ≤ 1048576 ∧ (packL l1).length ≤ 8388608 := by
    rcases e1 with ⟨rfl, rfl⟩ | ⟨sp, rfl⟩
    · simp [packL]
    · have := bulk_strs (H := H) l1
      simp only [Rows.uptoBulk] at hb; omega
  have hl2 : l2.length ≤ 1048576 ∧ (packL l2).length ≤ 8388608 := by
    rcases e2 with ⟨rfl, rfl⟩ | ⟨sp, rfl⟩
    · simp [packL]
    · have := bulk_strs (H := H) l2
      simp only [Rows.uptoBulk] at hb; omega
  have hn3 : 0 ≤ n3 ∧ n3 < 18446744073709551616 := by
    simp [Lit.wf, IntKind.min, IntKind.max, IntKind.signed, IntKind.bits] at w3
    omega
  obtain ⟨m3, rfl⟩ := Int.eq_ofNat_of_zero_le hn3.1
  have hn4 : 0 ≤ n4 ∧ n4 < 18446744073709551616 := by
    simp [Lit.wf, IntKind.min, IntKind.max, IntKind.signed, IntKind.bits] at w4
    omega
  obtain ⟨m4, rfl⟩ := Int.eq_ofNat_of_zero_le hn4.1
  refine ((encBack_ok l0 l1 l2 m3 m4 hl0 hl1.1 hl2.1 hl1.2 hl2.2 (by omega) (by omega)).law W (tabIn hL) [v0, v1, v2, .int .u64 m3, .int .u64 m4] rfl (fun i c v k1 k2 => ?_)).mono fun e W' ⟨he, hg⟩ => ?_
  · match i, k1, k2 with
    | 0, k1, k2 => simp at k1 k2; subst k1; subst k2; exact ⟨g0, rfl⟩
    | 1, k1, k2 => simp at k1 k2; subst k1; subst k2; exact ⟨g1, rfl⟩
    | 2, k1, k2 => simp at k1 k2; subst k1; subst k2; exact ⟨g2, rfl⟩
    | 3, k1, k2 => simp at k1 k2; subst k1; subst k2; exact ⟨g3, rfl⟩
    | 4, k1, k2 => simp at k1 k2; subst k1; subst k2; exact ⟨g4, rfl⟩
    | i + 5, k1, _ => simp at k1
  subst he
  exact ⟨_, rfl, post_law (by kernel_rfl) hW' rfl rfl rfl Tryd.underlying4 (by kernel_rfl) hg⟩
theorem laid_met (os : Os) : laidMet Tryd.prog Rows.encBackUptoRow.laid ((laidWorld os).forCall (fun _ _ => 0) ⟨#[], #[.slice none 0 0, .slice none 0 0, .slice none 0 0, .int .u64 0, .int .u64 0], []⟩).memory :=
  laidMet_of_run' 8 (by kernel_rfl) (by kernel_rfl)
theorem reads (os : Os) {H : Type} (enc : TypeId × Value → H) : ∃ places, DataW.whole enc Tryd.prog ((laidWorld os).forCall (fun _ _ => 0) ⟨#[], #[.slice none 0 0, .slice none 0 0, .slice none 0 0, .int .u64 0, .int .u64 0], []⟩).memory Tryd.f5.params.toList Rows.encBackSpec.vars false (#[.slice none 0 0, .slice none 0 0, .slice none 0 0, .int .u64 0, .int .u64 0] : Array Value).toList 8 = some ([.nil, .nil, .nil, .lit (.int .u64 0), .lit (.int .u64 0)], [], places) :=
  ⟨[], by kernel_rfl⟩
set_option maxRecDepth 100000 in
theorem lifted (os : Os) (started : os.Started) (H : Type) (enc : TypeId × Value → H) (F : Stop.Interp) :
    ReturnsInHanded {} Tryd.checked os 5 .any ((Rows.OpenSpec.upto Rows.encBackSpec).preRow enc Tryd.prog Tryd.f5 Rows.encBackUptoRow.domain false Rows.encBackUptoRow.laid) (((Rows.OpenSpec.upto Rows.encBackSpec).at F).post enc Tryd.prog Tryd.f5 false true false false) := by
  obtain ⟨places, hx⟩ := reads os enc
  refine returnsInHanded_of_row (C := Tryd.checked) (s := Rows.OpenSpec.upto Rows.encBackSpec) own started (by kernel_rfl) Tryd.func5
    (witness_row_at (enc := enc) (C := Tryd.checked) false (laidWorld os) #[.slice none 0 0, .slice none 0 0, .slice none 0 0, .int .u64 0, .int .u64 0] rfl (by kernel_rfl) (by kernel_rfl) (by kernel_rfl)
      (OpenSpec.preRow_of_cond 8 hx (by kernel_rfl) (fun k hk => by cases hk; kernel_rfl) (by kernel_rfl) (laid_met os))) ?_
  intro W base args ds gs before hval hW _ hcond _ hL _ _
  exact contract H enc W base args ds gs before hval hW (hcond _ rfl) hL
theorem saidUpto : Rows.EncBackUptoSaid :=
  OpenClaim.holds_of_cond 5 Tryd.f5 rfl rfl rfl rfl rfl rfl rfl ⟨rfl, rfl, rfl, rfl, rfl⟩ rfl rfl rfl rfl rfl (by kernel_rfl) Tryd.func5 (by kernel_rfl)
    (of_decide_eq_true (by kernel_rfl)) (by unfold Func.isWrapper; first | (rw [if_pos (by decide +kernel)]; kernel_rfl) | (rw [if_neg (by decide +kernel)]; exact ⟨rfl, rfl⟩))
    (fun os started H enc _ F => by rw [OpenClaim.pre_eq_preRow]; exact lifted os started H enc F)
theorem plain (f : FuncId) (fn : Func) (hf : Tryd.pinned.checked.prog.funcNamed "stowage/stowagelaw1.EncBack" = some f) (hfn : Tryd.pinned.checked.prog.funcs[f]? = some fn) :
    false = Tryd.pinned.checked.prog.looks [] ∧ ∀ (j : Nat) t, fn.params[j]? = some t → Tryd.pinned.checked.prog.wantsStandIn t = false := by
  obtain rfl : f = 5 := Option.some.inj ((show Tryd.prog.funcNamed "stowage/stowagelaw1.EncBack" = some 5 by kernel_rfl).symm.trans hf) |>.symm
  obtain rfl : fn = Tryd.f5 := (Option.some.inj (Tryd.func5.symm.trans hfn)).symm
  refine ⟨by kernel_rfl, fun j t ht => ?_⟩
  rw [Tryd.params5] at ht
  have hm := Array.mem_of_getElem? ht
  simp only [List.mem_toArray, List.mem_cons, List.not_mem_nil, or_false] at hm
  rcases hm with rfl | rfl | rfl | rfl | rfl
  · exact (show Tryd.prog.wantsStandIn 33 = false by kernel_rfl)
  · exact (show Tryd.prog.wantsStandIn 34 = false by kernel_rfl)
  · exact (show Tryd.prog.wantsStandIn 34 = false by kernel_rfl)
  · exact (show Tryd.prog.wantsStandIn 35 = false by kernel_rfl)
  · exact (show Tryd.prog.wantsStandIn 35 = false by kernel_rfl)
theorem proved : Rows.EncBackUptoCardSaid :=
  Claim7.holds_tied_plain_at .later [] _ _ _ _ saidUpto (fun _ h => by cases h) (by kernel_rfl) (fun _ h => by cases h) encBackUpto_row_tie rfl ⟨rfl, rfl⟩ (by kernel_rfl) rfl plain (by kernel_rfl)
end Go.Proofs.YtfkpdfpnpcdhaaaDoor.encBack
