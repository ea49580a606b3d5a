/- what the functions of enc and of the document compute, shown from their code. -/
import Derived.Test.YtfkpdfpnpcdhaaaProg
import Derived.Test.YtfkpdfpnpcdhaaaAm28
set_option maxRecDepth 100000
set_option linter.unusedVariables false
set_option linter.unusedSimpArgs false
namespace Go.Proofs.Ytfkpdfpnpcdhaaa
open Go.Am
instance : Tab := ⟨fun _ => none⟩

def HX : List UInt8 := [48, 49, 50, 51, 52, 53, 54, 55, 56, 57, 97, 98, 99, 100, 101, 102]
def hxd (d : Nat) : UInt8 := HX.getD d 0
def hexL (b : List UInt8) : List UInt8 := b.flatMap fun c => [hxd (c.toNat / 16), hxd (c.toNat % 16)]
def hv (c : UInt8) : Option Nat := if 48 ≤ c.toNat ∧ c.toNat ≤ 57 then some (c.toNat - 48) else if 97 ≤ c.toNat ∧ c.toNat ≤ 102 then some (c.toNat - 87) else none
def unhexL : List UInt8 → Option (List UInt8)
  | [] => some []
  | [_] => none
  | a :: b :: r => match hv a, hv b, unhexL r with
    | some x, some y, some l => some (UInt8.ofNat (16 * x + y) :: l)
    | _, _, _ => none
def fnd : List UInt8 → UInt8 → Option Nat
  | [], _ => none
  | x :: r, c => if x = c then some 0 else (fnd r c).map (· + 1)
def fndI (s : List UInt8) (c : UInt8) : Int := match fnd s c with
  | some i => i
  | none => -1
theorem hexL_length (b : List UInt8) : (hexL b).length = 2 * b.length := by
  induction b with
  | nil => rfl
  | cons x xs ih => simp [hexL, List.flatMap_cons] at *; omega
theorem rdigit_eq (d : Nat) (h : d < 16) : (HX.take ((d : Int) + 1).toNat).drop (d : Int).toNat = [hxd d] := by
  have : ∀ d : Fin 16, (HX.take ((d.val : Int) + 1).toNat).drop (d.val : Int).toNat = [hxd d.val] := by decide
  exact this ⟨d, h⟩
theorem shr4 (x : Nat) : (x : Int).fdiv (2 ^ min (Int.toNat 4) IntKind.u8.bits) = ((x / 16 : Nat) : Int) := by
  show (x : Int).fdiv 16 = _
  rw [Int.fdiv_eq_ediv_of_nonneg _ (by decide)]; rfl
theorem and15 (c : UInt8) : bitsE .and .u8 (c.toNat : Int) 15 = ((c.toNat % 16 : Nat) : Int) := by
  have := (Go.Am.bits_nat .u8 (a := c.toNat) (b := 15) c.toNat_lt (by decide) rfl).1
  rw [show ((15 : Nat) : Int) = 15 from rfl] at this
  rw [this, show c.toNat &&& 15 = c.toNat % 16 from Nat.and_two_pow_sub_one_eq_mod c.toNat 4]
theorem u8b (c : UInt8) : (0 : Int) ≤ (c.toNat : Int) ∧ (c.toNat : Int) < 256 := by have := c.toNat_lt; omega
theorem toB_u8 (c : UInt8) : toB (c.toNat : Int) = c := by simp [toB]
theorem toB_ofNat (n : Nat) : toB (n : Int) = UInt8.ofNat n := by simp [toB]
theorem take_succ' {α : Type} (b : List α) (i : Nat) (d : α) (h : i < b.length) : b.take (i + 1) = b.take i ++ [b.getD i d] := by
  rw [List.take_add_one, List.getD_eq_getElem?_getD, List.getElem?_eq_getElem h]; rfl
theorem hex_step (b : List UInt8) (i : Nat) (h : i < b.length) : hexL (b.take i) ++ List.map toB [((HX.getD (((b.getD (i : Int).toNat 0).toNat / 16 : Nat) : Int).toNat 0).toNat : Int), ((HX.getD (((b.getD (i : Int).toNat 0).toNat % 16 : Nat) : Int).toNat 0).toNat : Int)] = hexL (b.take (i + 1)) := by
  rw [take_succ' b i 0 h]
  simp only [Int.toNat_natCast]
  simp [hexL, List.flatMap_append, toB_u8, hxd]
theorem rhex_step (b : List UInt8) (i : Nat) (h : i < b.length) : hexL (b.take i) ++ [hxd ((b.getD (i : Int).toNat 0).toNat / 16)] ++ [hxd ((b.getD (i : Int).toNat 0).toNat % 16)] = hexL (b.take (i + 1)) := by
  rw [take_succ' b i 0 h]
  simp only [Int.toNat_natCast]
  simp [hexL, List.flatMap_append]
theorem quo16 (c : UInt8) : IntKind.i64.wrap ((IntKind.i64.wrap (c.toNat : Int)).tdiv 16) = ((c.toNat / 16 : Nat) : Int) := by
  have := c.toNat_lt
  rw [i64_id (x := (c.toNat : Int)) (by omega) (by omega), show (16 : Int) = ((16 : Nat) : Int) from rfl, ← Int.ofNat_tdiv, i64_id (by omega) (by omega)]
theorem rem16 (c : UInt8) : (IntKind.i64.wrap (c.toNat : Int)).tmod 16 = ((c.toNat % 16 : Nat) : Int) := by
  have := c.toNat_lt
  rw [i64_id (x := (c.toNat : Int)) (by omega) (by omega)]; rfl
theorem hv_lt {c : UInt8} {x : Nat} (h : hv c = some x) : x < 16 := by
  unfold hv at h
  split at h
  · simp at h; omega
  · split at h
    · simp at h; omega
    · simp at h
theorem or4 {x y : Nat} (hx : x < 16) (hy : y < 16) : bitsE .or .u8 (IntKind.u8.wrap ((x : Int) * 2 ^ min (Int.toNat 4) IntKind.u8.bits)) (y : Int) = ((16 * x + y : Nat) : Int) := by
  have e : IntKind.u8.wrap ((x : Int) * 2 ^ min (Int.toNat 4) IntKind.u8.bits) = ((16 * x : Nat) : Int) := by
    show IntKind.u8.wrap ((x : Int) * 16) = _
    rw [wrap_u8]; omega
  rw [e, (Go.Am.bits_nat .u8 (a := 16 * x) (b := y) (show 16 * x < 256 by omega) (show y < 256 by omega) rfl).2.1]
  have := Nat.two_pow_add_eq_or_of_lt (i := 4) hy x
  rw [show (2 : Nat) ^ 4 = 16 from rfl] at this
  rw [this]
theorem drop2 (s : List UInt8) (i : Nat) (h : i + 1 < s.length) : s.drop i = s.getD i 0 :: s.getD (i + 1) 0 :: s.drop (i + 2) := by
  rw [List.drop_eq_getElem_cons (by omega : i < s.length), List.drop_eq_getElem_cons (by omega : i + 1 < s.length)]
  simp [List.getD_eq_getElem?_getD, List.getElem?_eq_getElem h, List.getElem?_eq_getElem (by omega : i < s.length)]
/-- so far -/
structure UnI (s : List UInt8) (i : Nat) (out : List UInt8) : Prop where
  le : i ≤ s.length
  ev : i % 2 = 0
  evs : s.length % 2 = 0
  len : out.length = i / 2
  eq : unhexL s = (unhexL (s.drop i)).map (out ++ ·)
theorem UnI.none1 {s i out} (h : UnI s i out) (hi : i < s.length) (e : hv (s.getD i 0) = none) : unhexL s = none := by
  have := h.ev; have := h.evs
  rw [h.eq, drop2 s i (by omega), unhexL, e]; rfl
theorem UnI.none2 {s i out} (h : UnI s i out) (hi : i < s.length) (e : hv (s.getD (i + 1) 0) = none) : unhexL s = none := by
  have := h.ev; have := h.evs
  rw [h.eq, drop2 s i (by omega), unhexL, e]
  cases hv (s.getD i 0) <;> rfl
theorem UnI.step {s i out x y} (h : UnI s i out) (hi : i < s.length) (e1 : hv (s.getD i 0) = some x) (e2 : hv (s.getD (i + 1) 0) = some y) : UnI s (i + 2) (out ++ [UInt8.ofNat (16 * x + y)]) := by
  have h1 := h.ev; have h2 := h.evs; have h3 := h.len
  refine ⟨by omega, by omega, h2, by simp; omega, ?_⟩
  rw [h.eq, drop2 s i (by omega), unhexL, e1, e2]
  cases unhexL (s.drop (i + 2)) <;> simp
theorem UnI.done {s i out} (h : UnI s i out) (hi : s.length ≤ i) : unhexL s = some out := by
  rw [h.eq, List.drop_eq_nil_of_le hi, unhexL]; simp
theorem UnI.start {s : List UInt8} (h : s.length % 2 = 0) : UnI s 0 [] := ⟨by omega, rfl, h, rfl, by simp⟩
theorem unhex_odd : ∀ {s : List UInt8}, s.length % 2 = 1 → unhexL s = none
  | [], h => by simp at h
  | [_], h => rfl
  | a :: b :: r, h => by
    rw [unhexL, unhex_odd (s := r) (by simp at h; omega)]
    cases hv a <;> cases hv b <;> rfl
theorem fnd_hv (c : UInt8) : fnd HX c = hv c := by
  have : ∀ n : Fin 256, fnd HX (UInt8.ofNat n.val) = hv (UInt8.ofNat n.val) := by decide
  have h := this ⟨c.toNat, c.toNat_lt⟩
  simpa using h
structure FdI (s : List UInt8) (c : UInt8) (i : Nat) : Prop where
  le : i ≤ s.length
  eq : fnd s c = (fnd (s.drop i) c).map (· + i)
theorem FdI.hit {s c i} (h : FdI s c i) (hi : i < s.length) (e : s.getD i 0 = c) : fndI s c = i := by
  unfold fndI
  rw [h.eq, List.drop_eq_getElem_cons hi, fnd]
  rw [List.getD_eq_getElem?_getD, List.getElem?_eq_getElem hi] at e
  simp at e
  simp [e]
theorem FdI.step {s c i} (h : FdI s c i) (hi : i < s.length) (e : s.getD i 0 ≠ c) : FdI s c (i + 1) := by
  refine ⟨by omega, ?_⟩
  rw [h.eq, List.drop_eq_getElem_cons hi, fnd]
  rw [List.getD_eq_getElem?_getD, List.getElem?_eq_getElem hi] at e
  simp at e
  rw [if_neg e, Option.map_map]
  congr 1; funext x; simp; omega
theorem FdI.done {s c i} (h : FdI s c i) (hi : s.length ≤ i) : fndI s c = -1 := by
  unfold fndI
  rw [h.eq, List.drop_eq_nil_of_le hi]; rfl
theorem fndI_hv (c : UInt8) : fndI HX c = match hv c with | some x => (x : Int) | none => -1 := by unfold fndI; rw [fnd_hv]
theorem fnd_some {c : UInt8} (h : 0 ≤ fndI HX c) : ∃ x, hv c = some x := by
  rw [fndI_hv] at h
  cases e : hv c with
  | none => rw [e] at h; simp at h
  | some x => exact ⟨x, rfl⟩
theorem fnd_none {c : UInt8} (h : fndI HX c < 0) : hv c = none := by
  rw [fndI_hv] at h
  cases e : hv c with
  | none => rfl
  | some x => rw [e] at h; simp only at h; omega
theorem i1 (i : Nat) (h : i ≤ 16777216) : (IntKind.i64.wrap ((i : Int) + 1)).toNat = i + 1 := by rw [i64_id (by omega) (by omega)]; omega
theorem u16xy {x y : Nat} (hx : x < 16) (hy : y < 16) : IntKind.u8.wrap (IntKind.i64.wrap (IntKind.i64.wrap (16 * (x : Int)) + (y : Int))) = ((16 * x + y : Nat) : Int) := by
  rw [i64_id (x := 16 * (x : Int)) (by omega) (by omega), i64_id (by omega) (by omega), u8_id (by omega) (by omega)]; omega

theorem rdigit_ok (d : Nat) (h : d < 16) : FnOK Try.prog 40 [.int .i64 d] [] (.str [hxd d]) [] := by
  refine FnOK.of_runs Try.func40 rfl (Nat.le_of_ble_eq_true rfl) ?_
  refine Runs.seq ?_
  refine Runs.reg [] [] rfl (by (try simp only [wrap_i64', wrap_u8, wrap_u16, wrap_u32, wrap_u64, wrap_i32, List.length_cons, List.length_nil, List.length_append, List.length_map, tmodN, tdivN]); and_intros <;> first | exact True.intro | omega | skip) ?_
  refine Runs.seq ?_
  refine Runs.reg [] [0, 1] rfl (by (try simp only [wrap_i64', wrap_u8, wrap_u16, wrap_u32, wrap_u64, wrap_i32, List.length_cons, List.length_nil, List.length_append, List.length_map, tmodN, tdivN]); and_intros <;> first | exact True.intro | omega | skip) ?_
  exact Runs.retH Try.func40 rfl rfl (by rw [i64_id (by omega) (by omega)]; exact congrArg AV.str (rdigit_eq d h)) (by rfl)

theorem hex_ok (b : List UInt8) (o : Bool) (hb : b.length ≤ 16777216) : FnOK Try.prog 13 [.bs b o] [] (.str (hexL b)) [] := by
  refine FnOK.of_runs Try.func13 rfl (Nat.le_of_ble_eq_true rfl) ?_
  refine Runs.seq ?_
  refine Runs.reg [] [] rfl (by (try simp only [wrap_i64', wrap_u8, wrap_u16, wrap_u32, wrap_u64, wrap_i32, List.length_cons, List.length_nil, List.length_append, List.length_map, tmodN, tdivN]); and_intros <;> first | exact True.intro | omega | skip) ?_
  refine Runs.seq ?_
  refine Runs.reg [] [0] rfl (by (try simp only [wrap_i64', wrap_u8, wrap_u16, wrap_u32, wrap_u64, wrap_i32, List.length_cons, List.length_nil, List.length_append, List.length_map, tmodN, tdivN]); and_intros <;> first | exact True.intro | omega | skip) ?_
  refine Runs.seq ?_
  refine Runs.seq ?_
  refine Runs.reg [] [0] rfl (by (try simp only [wrap_i64', wrap_u8, wrap_u16, wrap_u32, wrap_u64, wrap_i32, List.length_cons, List.length_nil, List.length_append, List.length_map, tmodN, tdivN]); and_intros <;> first | exact True.intro | omega | skip) ?_
  refine Runs.block ?_
  -- loop 0
  refine Runs.loopF (σ := Nat) (fun i => i ≤ b.length) (fun i => [(3, .bs (hexL (b.take i)) true), (10, .bs b false), (11, .int .i64 b.length), (12, .int .i64 i)]) (fun _ => []) (fun i => b.length - i) (0) (by exact Nat.zero_le _) (by exact agree_cons rfl (by first | with_reducible rfl | (refine congrArg (AV.int _) ?_; (try simp only [wrap_i64', wrap_u8, wrap_u16, wrap_u32, wrap_u64, wrap_i32, List.length_cons, List.length_nil, List.length_append, List.length_map, tmodN, tdivN]); omega) | rfl | skip) (agree_cons rfl (by first | with_reducible rfl | (refine congrArg (AV.int _) ?_; (try simp only [wrap_i64', wrap_u8, wrap_u16, wrap_u32, wrap_u64, wrap_i32, List.length_cons, List.length_nil, List.length_append, List.length_map, tmodN, tdivN]); omega) | rfl | skip) (agree_cons rfl (by first | with_reducible rfl | (refine congrArg (AV.int _) ?_; (try simp only [wrap_i64', wrap_u8, wrap_u16, wrap_u32, wrap_u64, wrap_i32, List.length_cons, List.length_nil, List.length_append, List.length_map, tmodN, tdivN]); omega) | rfl | skip) (agree_cons rfl (by first | with_reducible rfl | (refine congrArg (AV.int _) ?_; (try simp only [wrap_i64', wrap_u8, wrap_u16, wrap_u32, wrap_u64, wrap_i32, List.length_cons, List.length_nil, List.length_append, List.length_map, tmodN, tdivN]); omega) | rfl | skip) (trivial))))) (by rfl) (fun i hi ih => ?_)
  refine Runs.seq ?_
  refine Runs.reg [] [] rfl (by (try simp only [wrap_i64', wrap_u8, wrap_u16, wrap_u32, wrap_u64, wrap_i32, List.length_cons, List.length_nil, List.length_append, List.length_map, tmodN, tdivN]); and_intros <;> first | exact True.intro | omega | skip) ?_
  refine Runs.seq ?_
  refine Runs.condS rfl (fun g13 => ?_) (fun g13 => ?_)
  · try simp only [decide_eq_true_eq, decide_eq_false_iff_not, notT, notF, beq_iff_eq, beq_eq_false_iff_ne, bne_iff_ne, bne_eq_false_iff_eq, tmodN, tdivN, Int.not_lt, Int.not_le] at g13
    refine Runs.skip ?_
    refine Runs.seq ?_
    refine Runs.block ?_
    refine Runs.seq ?_
    refine Runs.reg [] [] rfl (by (try simp only [wrap_i64', wrap_u8, wrap_u16, wrap_u32, wrap_u64, wrap_i32, List.length_cons, List.length_nil, List.length_append, List.length_map, tmodN, tdivN]); and_intros <;> first | exact True.intro | omega | skip) ?_
    refine Runs.regD [] [1, 4] rfl rfl rfl (by rw [shr4, and15]; have := u8lt (b.getD (i : Int).toNat 0); have hl := hexL_length (b.take i); rw [List.length_take] at hl; simp only [List.length_cons, List.length_nil, List.length_map]; and_intros <;> first | exact True.intro | omega | (intro x hx; simp only [List.mem_cons, List.not_mem_nil, or_false] at hx; rcases hx with rfl | rfl <;> exact u8b _)) ?_
    refine Runs.inBlock ?_
    refine Runs.reg [] [] rfl (by (try simp only [wrap_i64', wrap_u8, wrap_u16, wrap_u32, wrap_u64, wrap_i32, List.length_cons, List.length_nil, List.length_append, List.length_map, tmodN, tdivN]); and_intros <;> first | exact True.intro | omega | skip) ?_
    exact ih (i + 1) _ _ (by first | exact True.intro | omega) (by omega) (by exact agree_cons rfl (by rw [shr4, and15]; exact congrArg (AV.bs · true) (hex_step b i (by omega))) (agree_cons rfl (by first | with_reducible rfl | (refine congrArg (AV.int _) ?_; (try simp only [wrap_i64', wrap_u8, wrap_u16, wrap_u32, wrap_u64, wrap_i32, List.length_cons, List.length_nil, List.length_append, List.length_map, tmodN, tdivN]); omega) | rfl | skip) (agree_cons rfl (by first | with_reducible rfl | (refine congrArg (AV.int _) ?_; (try simp only [wrap_i64', wrap_u8, wrap_u16, wrap_u32, wrap_u64, wrap_i32, List.length_cons, List.length_nil, List.length_append, List.length_map, tmodN, tdivN]); omega) | rfl | skip) (agree_cons rfl (by first | with_reducible rfl | (refine congrArg (AV.int _) ?_; (try simp only [wrap_i64', wrap_u8, wrap_u16, wrap_u32, wrap_u64, wrap_i32, List.length_cons, List.length_nil, List.length_append, List.length_map, tmodN, tdivN]); omega) | rfl | skip) (trivial))))) (by rfl)
  · try simp only [decide_eq_true_eq, decide_eq_false_iff_not, notT, notF, beq_iff_eq, beq_eq_false_iff_ne, bne_iff_ne, bne_eq_false_iff_eq, tmodN, tdivN, Int.not_lt, Int.not_le] at g13
    refine Runs.exit rfl ?_
    refine Runs.seq ?_
    refine Runs.reg [] [0] rfl (by (try simp only [wrap_i64', wrap_u8, wrap_u16, wrap_u32, wrap_u64, wrap_i32, List.length_cons, List.length_nil, List.length_append, List.length_map, tmodN, tdivN]); and_intros <;> first | exact True.intro | omega | skip) ?_
    exact Runs.retH Try.func13 rfl rfl (by rw [List.take_of_length_le (by omega)]) (by rfl)

theorem rhex_ok (b : List UInt8) (o : Bool) (hb : b.length ≤ 16777216) : FnOK Try.prog 14 [.bs b o] [] (.str (hexL b)) [] := by
  refine FnOK.of_runs Try.func14 rfl (Nat.le_of_ble_eq_true rfl) ?_
  refine Runs.seq ?_
  refine Runs.reg [] [] rfl (by (try simp only [wrap_i64', wrap_u8, wrap_u16, wrap_u32, wrap_u64, wrap_i32, List.length_cons, List.length_nil, List.length_append, List.length_map, tmodN, tdivN]); and_intros <;> first | exact True.intro | omega | skip) ?_
  refine Runs.seq ?_
  refine Runs.reg [] [] rfl (by (try simp only [wrap_i64', wrap_u8, wrap_u16, wrap_u32, wrap_u64, wrap_i32, List.length_cons, List.length_nil, List.length_append, List.length_map, tmodN, tdivN]); and_intros <;> first | exact True.intro | omega | skip) ?_
  refine Runs.seq ?_
  refine Runs.seq ?_
  refine Runs.reg [] [] rfl (by (try simp only [wrap_i64', wrap_u8, wrap_u16, wrap_u32, wrap_u64, wrap_i32, List.length_cons, List.length_nil, List.length_append, List.length_map, tmodN, tdivN]); and_intros <;> first | exact True.intro | omega | skip) ?_
  refine Runs.block ?_
  -- loop 0
  refine Runs.loopF (σ := Nat) (fun i => i ≤ b.length) (fun i => [(0, .bs b o), (3, .str (hexL (b.take i))), (4, .int .i64 i)]) (fun _ => []) (fun i => b.length - i) (0) (by exact Nat.zero_le _) (by exact agree_cons rfl (by first | with_reducible rfl | (refine congrArg (AV.int _) ?_; (try simp only [wrap_i64', wrap_u8, wrap_u16, wrap_u32, wrap_u64, wrap_i32, List.length_cons, List.length_nil, List.length_append, List.length_map, tmodN, tdivN]); omega) | rfl | skip) (agree_cons rfl (by first | with_reducible rfl | (refine congrArg (AV.int _) ?_; (try simp only [wrap_i64', wrap_u8, wrap_u16, wrap_u32, wrap_u64, wrap_i32, List.length_cons, List.length_nil, List.length_append, List.length_map, tmodN, tdivN]); omega) | rfl | skip) (agree_cons rfl (by first | with_reducible rfl | (refine congrArg (AV.int _) ?_; (try simp only [wrap_i64', wrap_u8, wrap_u16, wrap_u32, wrap_u64, wrap_i32, List.length_cons, List.length_nil, List.length_append, List.length_map, tmodN, tdivN]); omega) | rfl | skip) (trivial)))) (by rfl) (fun i hi ih => ?_)
  refine Runs.seq ?_
  refine Runs.seq ?_
  refine Runs.reg [] [0, 1] rfl (by (try simp only [wrap_i64', wrap_u8, wrap_u16, wrap_u32, wrap_u64, wrap_i32, List.length_cons, List.length_nil, List.length_append, List.length_map, tmodN, tdivN]); and_intros <;> first | exact True.intro | omega | skip) ?_
  refine Runs.condS rfl (fun g8 => ?_) (fun g8 => ?_)
  · try simp only [decide_eq_true_eq, decide_eq_false_iff_not, notT, notF, beq_iff_eq, beq_eq_false_iff_ne, bne_iff_ne, bne_eq_false_iff_eq, tmodN, tdivN, Int.not_lt, Int.not_le] at g8
    refine Runs.skip ?_
    refine Runs.seq ?_
    refine Runs.block ?_
    refine Runs.regD [(7, { res := .str [hxd ((b.getD (i : Int).toNat 0).toNat / 16)] }), (15, { res := .str [hxd ((b.getD (i : Int).toNat 0).toNat % 16)] })] [1, 2, 9, 10] rfl rfl rfl (by have := u8lt (b.getD (i : Int).toNat 0); have hl := hexL_length (b.take i); rw [List.length_take] at hl; rw [quo16, rem16]; simp only [List.length_cons, List.length_nil, List.length_map, List.length_append, List.length_take]; and_intros <;> first | exact True.intro | omega | exact rdigit_ok _ (by omega)) ?_
    refine Runs.inBlock ?_
    refine Runs.reg [] [] rfl (by (try simp only [wrap_i64', wrap_u8, wrap_u16, wrap_u32, wrap_u64, wrap_i32, List.length_cons, List.length_nil, List.length_append, List.length_map, tmodN, tdivN]); and_intros <;> first | exact True.intro | omega | skip) ?_
    exact ih (i + 1) _ _ (by first | exact True.intro | omega) (by omega) (by exact agree_cons rfl (by first | with_reducible rfl | (refine congrArg (AV.int _) ?_; (try simp only [wrap_i64', wrap_u8, wrap_u16, wrap_u32, wrap_u64, wrap_i32, List.length_cons, List.length_nil, List.length_append, List.length_map, tmodN, tdivN]); omega) | rfl | skip) (agree_cons rfl (by exact congrArg AV.str (rhex_step b i (by omega))) (agree_cons rfl (by first | with_reducible rfl | (refine congrArg (AV.int _) ?_; (try simp only [wrap_i64', wrap_u8, wrap_u16, wrap_u32, wrap_u64, wrap_i32, List.length_cons, List.length_nil, List.length_append, List.length_map, tmodN, tdivN]); omega) | rfl | skip) (trivial)))) (by rfl)
  · try simp only [decide_eq_true_eq, decide_eq_false_iff_not, notT, notF, beq_iff_eq, beq_eq_false_iff_ne, bne_iff_ne, bne_eq_false_iff_eq, tmodN, tdivN, Int.not_lt, Int.not_le] at g8
    refine Runs.exit rfl ?_
    refine Runs.seq ?_
    refine Runs.reg [] [0] rfl (by (try simp only [wrap_i64', wrap_u8, wrap_u16, wrap_u32, wrap_u64, wrap_i32, List.length_cons, List.length_nil, List.length_append, List.length_map, tmodN, tdivN]); and_intros <;> first | exact True.intro | omega | skip) ?_
    exact Runs.retH Try.func14 rfl rfl (by rw [List.take_of_length_le (by omega)]) (by rfl)

theorem digit_ok (c : UInt8) : FnOK Try.prog 38 [.int .u8 c.toNat] [] (.tup [.int .u8 ((hv c).getD 0 : Nat), .bool (hv c).isSome]) [] := by
  refine FnOK.of_runs Try.func38 rfl (Nat.le_of_ble_eq_true rfl) ?_
  refine Runs.seq ?_
  refine Runs.reg [] [] rfl (by (try simp only [wrap_i64', wrap_u8, wrap_u16, wrap_u32, wrap_u64, wrap_i32, List.length_cons, List.length_nil, List.length_append, List.length_map, tmodN, tdivN]); and_intros <;> first | exact True.intro | omega | skip) ?_
  refine Runs.seq ?_
  refine Runs.block ?_
  refine Runs.seq ?_
  refine Runs.region ?_
  refine Runs.restTo 3 [] [0, 3] rfl (by (try simp only [wrap_i64', wrap_u8, wrap_u16, wrap_u32, wrap_u64, wrap_i32, List.length_cons, List.length_nil, List.length_append, List.length_map, tmodN, tdivN]); and_intros <;> first | exact True.intro | omega | skip) ?_
  refine Runs.splitS 7 rfl (fun g7 => ?_) (fun g7 => ?_)
  · try simp only [decide_eq_true_eq, decide_eq_false_iff_not, notT, notF, beq_iff_eq, beq_eq_false_iff_ne, bne_iff_ne, bne_eq_false_iff_eq, tmodN, tdivN, Int.not_lt, Int.not_le] at g7
    refine Runs.rest [] [0, 3] rfl (by (try simp only [wrap_i64', wrap_u8, wrap_u16, wrap_u32, wrap_u64, wrap_i32, List.length_cons, List.length_nil, List.length_append, List.length_map, tmodN, tdivN]); and_intros <;> first | exact True.intro | omega | skip) ?_
    refine Runs.condS rfl (fun g4 => ?_) (fun g4 => ?_)
    · try simp only [decide_eq_true_eq, decide_eq_false_iff_not, notT, notF, beq_iff_eq, beq_eq_false_iff_ne, bne_iff_ne, bne_eq_false_iff_eq, tmodN, tdivN, Int.not_lt, Int.not_le] at g4
      refine Runs.seq ?_
      refine Runs.reg [] [0] rfl (by (try simp only [wrap_i64', wrap_u8, wrap_u16, wrap_u32, wrap_u64, wrap_i32, List.length_cons, List.length_nil, List.length_append, List.length_map, tmodN, tdivN]); and_intros <;> first | exact True.intro | omega | skip) ?_
      exact Runs.retH Try.func38 rfl rfl (by have := u8lt c; simp only [hv]; (try simp only [wrap_u8]); (repeat' split) <;> first | (exfalso; omega) | (simp <;> omega)) (by rfl)
    · try simp only [decide_eq_true_eq, decide_eq_false_iff_not, notT, notF, beq_iff_eq, beq_eq_false_iff_ne, bne_iff_ne, bne_eq_false_iff_eq, tmodN, tdivN, Int.not_lt, Int.not_le] at g4
      refine Runs.seq ?_
      refine Runs.region ?_
      refine Runs.restTo 3 [] [0, 3] rfl (by (try simp only [wrap_i64', wrap_u8, wrap_u16, wrap_u32, wrap_u64, wrap_i32, List.length_cons, List.length_nil, List.length_append, List.length_map, tmodN, tdivN]); and_intros <;> first | exact True.intro | omega | skip) ?_
      refine Runs.splitS 16 rfl (fun g16 => ?_) (fun g16 => ?_)
      · try simp only [decide_eq_true_eq, decide_eq_false_iff_not, notT, notF, beq_iff_eq, beq_eq_false_iff_ne, bne_iff_ne, bne_eq_false_iff_eq, tmodN, tdivN, Int.not_lt, Int.not_le] at g16
        refine Runs.rest [] [0, 3] rfl (by (try simp only [wrap_i64', wrap_u8, wrap_u16, wrap_u32, wrap_u64, wrap_i32, List.length_cons, List.length_nil, List.length_append, List.length_map, tmodN, tdivN]); and_intros <;> first | exact True.intro | omega | skip) ?_
        refine Runs.condS rfl (fun g13 => ?_) (fun g13 => ?_)
        · try simp only [decide_eq_true_eq, decide_eq_false_iff_not, notT, notF, beq_iff_eq, beq_eq_false_iff_ne, bne_iff_ne, bne_eq_false_iff_eq, tmodN, tdivN, Int.not_lt, Int.not_le] at g13
          refine Runs.seq ?_
          refine Runs.reg [] [0] rfl (by (try simp only [wrap_i64', wrap_u8, wrap_u16, wrap_u32, wrap_u64, wrap_i32, List.length_cons, List.length_nil, List.length_append, List.length_map, tmodN, tdivN]); and_intros <;> first | exact True.intro | omega | skip) ?_
          exact Runs.retH Try.func38 rfl rfl (by have := u8lt c; simp only [hv]; (try simp only [wrap_u8]); (repeat' split) <;> first | (exfalso; omega) | (simp <;> omega)) (by rfl)
        · try simp only [decide_eq_true_eq, decide_eq_false_iff_not, notT, notF, beq_iff_eq, beq_eq_false_iff_ne, bne_iff_ne, bne_eq_false_iff_eq, tmodN, tdivN, Int.not_lt, Int.not_le] at g13
          refine Runs.skip ?_
          refine Runs.inBlock ?_
          refine Runs.seq ?_
          refine Runs.reg [] [] rfl (by (try simp only [wrap_i64', wrap_u8, wrap_u16, wrap_u32, wrap_u64, wrap_i32, List.length_cons, List.length_nil, List.length_append, List.length_map, tmodN, tdivN]); and_intros <;> first | exact True.intro | omega | skip) ?_
          exact Runs.retH Try.func38 rfl rfl (by have := u8lt c; simp only [hv]; (try simp only [wrap_u8]); (repeat' split) <;> first | (exfalso; omega) | (simp <;> omega)) (by rfl)
      · try simp only [decide_eq_true_eq, decide_eq_false_iff_not, notT, notF, beq_iff_eq, beq_eq_false_iff_ne, bne_iff_ne, bne_eq_false_iff_eq, tmodN, tdivN, Int.not_lt, Int.not_le] at g16
        refine Runs.rest [] [0, 3] rfl (by (try simp only [wrap_i64', wrap_u8, wrap_u16, wrap_u32, wrap_u64, wrap_i32, List.length_cons, List.length_nil, List.length_append, List.length_map, tmodN, tdivN]); and_intros <;> first | exact True.intro | omega | skip) ?_
        refine Runs.condF rfl ?_
        refine Runs.skip ?_
        refine Runs.inBlock ?_
        refine Runs.seq ?_
        refine Runs.reg [] [] rfl (by (try simp only [wrap_i64', wrap_u8, wrap_u16, wrap_u32, wrap_u64, wrap_i32, List.length_cons, List.length_nil, List.length_append, List.length_map, tmodN, tdivN]); and_intros <;> first | exact True.intro | omega | skip) ?_
        exact Runs.retH Try.func38 rfl rfl (by have := u8lt c; simp only [hv]; (try simp only [wrap_u8]); (repeat' split) <;> first | (exfalso; omega) | (simp <;> omega)) (by rfl)
  · try simp only [decide_eq_true_eq, decide_eq_false_iff_not, notT, notF, beq_iff_eq, beq_eq_false_iff_ne, bne_iff_ne, bne_eq_false_iff_eq, tmodN, tdivN, Int.not_lt, Int.not_le] at g7
    refine Runs.rest [] [0, 3] rfl (by (try simp only [wrap_i64', wrap_u8, wrap_u16, wrap_u32, wrap_u64, wrap_i32, List.length_cons, List.length_nil, List.length_append, List.length_map, tmodN, tdivN]); and_intros <;> first | exact True.intro | omega | skip) ?_
    refine Runs.condF rfl ?_
    refine Runs.seq ?_
    refine Runs.region ?_
    refine Runs.restTo 3 [] [0, 3] rfl (by (try simp only [wrap_i64', wrap_u8, wrap_u16, wrap_u32, wrap_u64, wrap_i32, List.length_cons, List.length_nil, List.length_append, List.length_map, tmodN, tdivN]); and_intros <;> first | exact True.intro | omega | skip) ?_
    refine Runs.splitS 16 rfl (fun g16 => ?_) (fun g16 => ?_)
    · try simp only [decide_eq_true_eq, decide_eq_false_iff_not, notT, notF, beq_iff_eq, beq_eq_false_iff_ne, bne_iff_ne, bne_eq_false_iff_eq, tmodN, tdivN, Int.not_lt, Int.not_le] at g16
      refine Runs.rest [] [0, 3] rfl (by (try simp only [wrap_i64', wrap_u8, wrap_u16, wrap_u32, wrap_u64, wrap_i32, List.length_cons, List.length_nil, List.length_append, List.length_map, tmodN, tdivN]); and_intros <;> first | exact True.intro | omega | skip) ?_
      refine Runs.condS rfl (fun g13 => ?_) (fun g13 => ?_)
      · try simp only [decide_eq_true_eq, decide_eq_false_iff_not, notT, notF, beq_iff_eq, beq_eq_false_iff_ne, bne_iff_ne, bne_eq_false_iff_eq, tmodN, tdivN, Int.not_lt, Int.not_le] at g13
        refine Runs.seq ?_
        refine Runs.reg [] [0] rfl (by (try simp only [wrap_i64', wrap_u8, wrap_u16, wrap_u32, wrap_u64, wrap_i32, List.length_cons, List.length_nil, List.length_append, List.length_map, tmodN, tdivN]); and_intros <;> first | exact True.intro | omega | skip) ?_
        exact Runs.retH Try.func38 rfl rfl (by have := u8lt c; simp only [hv]; (try simp only [wrap_u8]); (repeat' split) <;> first | (exfalso; omega) | (simp <;> omega)) (by rfl)
      · try simp only [decide_eq_true_eq, decide_eq_false_iff_not, notT, notF, beq_iff_eq, beq_eq_false_iff_ne, bne_iff_ne, bne_eq_false_iff_eq, tmodN, tdivN, Int.not_lt, Int.not_le] at g13
        refine Runs.skip ?_
        refine Runs.inBlock ?_
        refine Runs.seq ?_
        refine Runs.reg [] [] rfl (by (try simp only [wrap_i64', wrap_u8, wrap_u16, wrap_u32, wrap_u64, wrap_i32, List.length_cons, List.length_nil, List.length_append, List.length_map, tmodN, tdivN]); and_intros <;> first | exact True.intro | omega | skip) ?_
        exact Runs.retH Try.func38 rfl rfl (by have := u8lt c; simp only [hv]; (try simp only [wrap_u8]); (repeat' split) <;> first | (exfalso; omega) | (simp <;> omega)) (by rfl)
    · try simp only [decide_eq_true_eq, decide_eq_false_iff_not, notT, notF, beq_iff_eq, beq_eq_false_iff_ne, bne_iff_ne, bne_eq_false_iff_eq, tmodN, tdivN, Int.not_lt, Int.not_le] at g16
      refine Runs.rest [] [0, 3] rfl (by (try simp only [wrap_i64', wrap_u8, wrap_u16, wrap_u32, wrap_u64, wrap_i32, List.length_cons, List.length_nil, List.length_append, List.length_map, tmodN, tdivN]); and_intros <;> first | exact True.intro | omega | skip) ?_
      refine Runs.condF rfl ?_
      refine Runs.skip ?_
      refine Runs.inBlock ?_
      refine Runs.seq ?_
      refine Runs.reg [] [] rfl (by (try simp only [wrap_i64', wrap_u8, wrap_u16, wrap_u32, wrap_u64, wrap_i32, List.length_cons, List.length_nil, List.length_append, List.length_map, tmodN, tdivN]); and_intros <;> first | exact True.intro | omega | skip) ?_
      exact Runs.retH Try.func38 rfl rfl (by have := u8lt c; simp only [hv]; (try simp only [wrap_u8]); (repeat' split) <;> first | (exfalso; omega) | (simp <;> omega)) (by rfl)

theorem unhex_ok (s : List UInt8) (hs : s.length ≤ 16777216) : FnOK Try.prog 11 [.str s] [] (.tup [.bs ((unhexL s).getD []) false, .bool (unhexL s).isSome]) [] := by
  refine FnOK.of_runs Try.func11 rfl (Nat.le_of_ble_eq_true rfl) ?_
  refine Runs.seq ?_
  refine Runs.reg [] [] rfl (by (try simp only [wrap_i64', wrap_u8, wrap_u16, wrap_u32, wrap_u64, wrap_i32, List.length_cons, List.length_nil, List.length_append, List.length_map, tmodN, tdivN]); and_intros <;> first | exact True.intro | omega | skip) ?_
  refine Runs.seq ?_
  refine Runs.seq ?_
  refine Runs.reg [] [0] rfl (by and_intros <;> first | exact True.intro | omega) ?_
  refine Runs.condS rfl (fun g13 => ?_) (fun g13 => ?_)
  · try simp only [decide_eq_true_eq, decide_eq_false_iff_not, notT, notF, beq_iff_eq, beq_eq_false_iff_ne, bne_iff_ne, bne_eq_false_iff_eq, tmodN, tdivN, Int.not_lt, Int.not_le] at g13
    refine Runs.seq ?_
    refine Runs.reg [] [] rfl (by (try simp only [wrap_i64', wrap_u8, wrap_u16, wrap_u32, wrap_u64, wrap_i32, List.length_cons, List.length_nil, List.length_append, List.length_map, tmodN, tdivN]); and_intros <;> first | exact True.intro | omega | skip) ?_
    exact Runs.retH Try.func11 rfl rfl (by rw [unhex_odd (by omega)]; rfl) (by rfl)
  · try simp only [decide_eq_true_eq, decide_eq_false_iff_not, notT, notF, beq_iff_eq, beq_eq_false_iff_ne, bne_iff_ne, bne_eq_false_iff_eq, tmodN, tdivN, Int.not_lt, Int.not_le] at g13
    refine Runs.skip ?_
    refine Runs.seq ?_
    refine Runs.reg [] [0] rfl (by (try simp only [wrap_i64', wrap_u8, wrap_u16, wrap_u32, wrap_u64, wrap_i32, List.length_cons, List.length_nil, List.length_append, List.length_map, tmodN, tdivN]); and_intros <;> first | exact True.intro | omega | skip) ?_
    refine Runs.seq ?_
    refine Runs.seq ?_
    refine Runs.reg [] [] rfl (by (try simp only [wrap_i64', wrap_u8, wrap_u16, wrap_u32, wrap_u64, wrap_i32, List.length_cons, List.length_nil, List.length_append, List.length_map, tmodN, tdivN]); and_intros <;> first | exact True.intro | omega | skip) ?_
    refine Runs.block ?_
    -- loop 0
    refine Runs.loopF (σ := Nat × List UInt8) (fun p => UnI s p.1 p.2) (fun p => [(0, .str s), (4, .bs p.2 true), (5, .int .i64 p.1)]) (fun _ => []) (fun p => s.length + 1 - p.1) ((0, [])) (by exact UnI.start (by omega)) (by exact agree_cons rfl (by first | with_reducible rfl | (refine congrArg (AV.int _) ?_; (try simp only [wrap_i64', wrap_u8, wrap_u16, wrap_u32, wrap_u64, wrap_i32, List.length_cons, List.length_nil, List.length_append, List.length_map, tmodN, tdivN]); omega) | rfl | skip) (agree_cons rfl (by first | with_reducible rfl | (refine congrArg (AV.int _) ?_; (try simp only [wrap_i64', wrap_u8, wrap_u16, wrap_u32, wrap_u64, wrap_i32, List.length_cons, List.length_nil, List.length_append, List.length_map, tmodN, tdivN]); omega) | rfl | skip) (agree_cons rfl (by first | with_reducible rfl | (refine congrArg (AV.int _) ?_; (try simp only [wrap_i64', wrap_u8, wrap_u16, wrap_u32, wrap_u64, wrap_i32, List.length_cons, List.length_nil, List.length_append, List.length_map, tmodN, tdivN]); omega) | rfl | skip) (trivial)))) (by rfl) (fun ⟨i, out⟩ hi ih => ?_)
    have hi : UnI s i out := hi; have hle := hi.le; have hev := hi.ev; have hevs := hi.evs; have hlen := hi.len
    refine Runs.seq ?_
    refine Runs.seq ?_
    refine Runs.reg [] [0, 1] rfl (by (try simp only [wrap_i64', wrap_u8, wrap_u16, wrap_u32, wrap_u64, wrap_i32, List.length_cons, List.length_nil, List.length_append, List.length_map, tmodN, tdivN]); and_intros <;> first | exact True.intro | omega | skip) ?_
    refine Runs.condS rfl (fun g21 => ?_) (fun g21 => ?_)
    · try simp only [decide_eq_true_eq, decide_eq_false_iff_not, notT, notF, beq_iff_eq, beq_eq_false_iff_ne, bne_iff_ne, bne_eq_false_iff_eq, tmodN, tdivN, Int.not_lt, Int.not_le] at g21
      refine Runs.skip ?_
      refine Runs.seq ?_
      refine Runs.block ?_
      refine Runs.seq ?_
      refine Runs.reg [(3, { res := .tup [.int .u8 ((hv (s.getD (i : Int).toNat 0)).getD 0 : Nat), .bool (hv (s.getD (i : Int).toNat 0)).isSome] })] [0, 1] rfl (by and_intros <;> first | exact True.intro | omega | exact digit_ok _) ?_
      refine Runs.seq ?_
      refine Runs.reg [(4, { res := .tup [.int .u8 ((hv (s.getD (IntKind.i64.wrap ((i : Int) + 1)).toNat 0)).getD 0 : Nat), .bool (hv (s.getD (IntKind.i64.wrap ((i : Int) + 1)).toNat 0)).isSome] })] [0, 1] rfl (by rw [i64_id (by omega) (by omega)]; and_intros <;> first | exact True.intro | omega | exact digit_ok _) ?_
      refine Runs.seq ?_
      refine Runs.seq ?_
      refine Runs.region ?_
      refine Runs.restTo 3 [] [0, 3] rfl (by (try simp only [wrap_i64', wrap_u8, wrap_u16, wrap_u32, wrap_u64, wrap_i32, List.length_cons, List.length_nil, List.length_append, List.length_map, tmodN, tdivN]); and_intros <;> first | exact True.intro | omega | skip) ?_
      refine Runs.splitS 41 rfl (fun g41 => ?_) (fun g41 => ?_)
      · try simp only [decide_eq_true_eq, decide_eq_false_iff_not, notT, notF, beq_iff_eq, beq_eq_false_iff_ne, bne_iff_ne, bne_eq_false_iff_eq, tmodN, tdivN, Int.not_lt, Int.not_le] at g41
        refine Runs.rest [] [0, 3] rfl (by (try simp only [wrap_i64', wrap_u8, wrap_u16, wrap_u32, wrap_u64, wrap_i32, List.length_cons, List.length_nil, List.length_append, List.length_map, tmodN, tdivN]); and_intros <;> first | exact True.intro | omega | skip) ?_
        refine Runs.condT rfl ?_
        refine Runs.seq ?_
        refine Runs.reg [] [] rfl (by (try simp only [wrap_i64', wrap_u8, wrap_u16, wrap_u32, wrap_u64, wrap_i32, List.length_cons, List.length_nil, List.length_append, List.length_map, tmodN, tdivN]); and_intros <;> first | exact True.intro | omega | skip) ?_
        exact Runs.retH Try.func11 rfl rfl (by rw [hi.none1 (by omega) (Option.isSome_eq_false_iff.1 g41 |> Option.isNone_iff_eq_none.1)]; rfl) (by rfl)
      · try simp only [decide_eq_true_eq, decide_eq_false_iff_not, notT, notF, beq_iff_eq, beq_eq_false_iff_ne, bne_iff_ne, bne_eq_false_iff_eq, tmodN, tdivN, Int.not_lt, Int.not_le] at g41
        refine Runs.rest [] [0, 3] rfl (by (try simp only [wrap_i64', wrap_u8, wrap_u16, wrap_u32, wrap_u64, wrap_i32, List.length_cons, List.length_nil, List.length_append, List.length_map, tmodN, tdivN]); and_intros <;> first | exact True.intro | omega | skip) ?_
        refine Runs.condS rfl (fun g44 => ?_) (fun g44 => ?_)
        · try simp only [decide_eq_true_eq, decide_eq_false_iff_not, notT, notF, beq_iff_eq, beq_eq_false_iff_ne, bne_iff_ne, bne_eq_false_iff_eq, tmodN, tdivN, Int.not_lt, Int.not_le] at g44
          refine Runs.seq ?_
          refine Runs.reg [] [] rfl (by (try simp only [wrap_i64', wrap_u8, wrap_u16, wrap_u32, wrap_u64, wrap_i32, List.length_cons, List.length_nil, List.length_append, List.length_map, tmodN, tdivN]); and_intros <;> first | exact True.intro | omega | skip) ?_
          exact Runs.retH Try.func11 rfl rfl (by rw [i1 i (by omega)] at g44; rw [hi.none2 (by omega) (Option.isSome_eq_false_iff.1 g44 |> Option.isNone_iff_eq_none.1)]; rfl) (by rfl)
        · try simp only [decide_eq_true_eq, decide_eq_false_iff_not, notT, notF, beq_iff_eq, beq_eq_false_iff_ne, bne_iff_ne, bne_eq_false_iff_eq, tmodN, tdivN, Int.not_lt, Int.not_le] at g44
          refine Runs.skip ?_
          obtain ⟨x, hx⟩ := Option.isSome_iff_exists.1 g41
          rw [i1 i (by omega)] at g44
          obtain ⟨y, hy⟩ := Option.isSome_iff_exists.1 g44
          refine Runs.reg [] [] rfl (by rw [hx, i1 i (by omega), hy, Option.getD_some, Option.getD_some, or4 (hv_lt hx) (hv_lt hy)]; have := hv_lt hx; have := hv_lt hy; simp only [List.length_cons, List.length_nil, List.length_map]; and_intros <;> first | exact True.intro | omega | (intro z hz; simp only [List.mem_cons, List.not_mem_nil, or_false] at hz; omega)) ?_
          refine Runs.inBlock ?_
          refine Runs.reg [] [] rfl (by (try simp only [wrap_i64', wrap_u8, wrap_u16, wrap_u32, wrap_u64, wrap_i32, List.length_cons, List.length_nil, List.length_append, List.length_map, tmodN, tdivN]); and_intros <;> first | exact True.intro | omega | skip) ?_
          exact ih (i + 2, out ++ [UInt8.ofNat (16 * x + y)]) _ _ (by exact hi.step (by omega) hx hy) (by simp only; omega) (by exact agree_cons rfl (by first | with_reducible rfl | (refine congrArg (AV.int _) ?_; (try simp only [wrap_i64', wrap_u8, wrap_u16, wrap_u32, wrap_u64, wrap_i32, List.length_cons, List.length_nil, List.length_append, List.length_map, tmodN, tdivN]); omega) | rfl | skip) (agree_cons rfl (by rw [hx, i1 i (by omega), hy, Option.getD_some, Option.getD_some, or4 (hv_lt hx) (hv_lt hy)]; exact congrArg (AV.bs · true) (by simp only [List.map_cons, List.map_nil, toB_ofNat])) (agree_cons rfl (by first | with_reducible rfl | (refine congrArg (AV.int _) ?_; (try simp only [wrap_i64', wrap_u8, wrap_u16, wrap_u32, wrap_u64, wrap_i32, List.length_cons, List.length_nil, List.length_append, List.length_map, tmodN, tdivN]); omega) | rfl | skip) (trivial)))) (by rfl)
    · try simp only [decide_eq_true_eq, decide_eq_false_iff_not, notT, notF, beq_iff_eq, beq_eq_false_iff_ne, bne_iff_ne, bne_eq_false_iff_eq, tmodN, tdivN, Int.not_lt, Int.not_le] at g21
      refine Runs.exit rfl ?_
      refine Runs.seq ?_
      refine Runs.reg [] [0] rfl (by (try simp only [wrap_i64', wrap_u8, wrap_u16, wrap_u32, wrap_u64, wrap_i32, List.length_cons, List.length_nil, List.length_append, List.length_map, tmodN, tdivN]); and_intros <;> first | exact True.intro | omega | skip) ?_
      exact Runs.retH Try.func11 rfl rfl (by rw [hi.done (by omega)]; rfl) (by rfl)

theorem find_ok (s : List UInt8) (c : UInt8) (hs : s.length ≤ 16777216) : FnOK Try.prog 39 [.str s, .int .u8 c.toNat] [] (.int .i64 (fndI s c)) [] := by
  refine FnOK.of_runs Try.func39 rfl (Nat.le_of_ble_eq_true rfl) ?_
  refine Runs.seq ?_
  refine Runs.reg [] [] rfl (by (try simp only [wrap_i64', wrap_u8, wrap_u16, wrap_u32, wrap_u64, wrap_i32, List.length_cons, List.length_nil, List.length_append, List.length_map, tmodN, tdivN]); and_intros <;> first | exact True.intro | omega | skip) ?_
  refine Runs.seq ?_
  refine Runs.seq ?_
  refine Runs.reg [] [] rfl (by (try simp only [wrap_i64', wrap_u8, wrap_u16, wrap_u32, wrap_u64, wrap_i32, List.length_cons, List.length_nil, List.length_append, List.length_map, tmodN, tdivN]); and_intros <;> first | exact True.intro | omega | skip) ?_
  refine Runs.block ?_
  -- loop 0
  refine Runs.loopF (σ := Nat) (fun i => FdI s c i) (fun i => [(0, .str s), (1, .int .u8 c.toNat), (5, .int .i64 i)]) (fun _ => []) (fun i => s.length - i) (0) (by exact ⟨Nat.zero_le _, by simp⟩) (by exact agree_cons rfl (by first | with_reducible rfl | (refine congrArg (AV.int _) ?_; (try simp only [wrap_i64', wrap_u8, wrap_u16, wrap_u32, wrap_u64, wrap_i32, List.length_cons, List.length_nil, List.length_append, List.length_map, tmodN, tdivN]); omega) | rfl | skip) (agree_cons rfl (by first | with_reducible rfl | (refine congrArg (AV.int _) ?_; (try simp only [wrap_i64', wrap_u8, wrap_u16, wrap_u32, wrap_u64, wrap_i32, List.length_cons, List.length_nil, List.length_append, List.length_map, tmodN, tdivN]); omega) | rfl | skip) (agree_cons rfl (by first | with_reducible rfl | (refine congrArg (AV.int _) ?_; (try simp only [wrap_i64', wrap_u8, wrap_u16, wrap_u32, wrap_u64, wrap_i32, List.length_cons, List.length_nil, List.length_append, List.length_map, tmodN, tdivN]); omega) | rfl | skip) (trivial)))) (by rfl) (fun i hi ih => ?_)
  have hle := hi.le
  refine Runs.seq ?_
  refine Runs.seq ?_
  refine Runs.reg [] [0, 1] rfl (by (try simp only [wrap_i64', wrap_u8, wrap_u16, wrap_u32, wrap_u64, wrap_i32, List.length_cons, List.length_nil, List.length_append, List.length_map, tmodN, tdivN]); and_intros <;> first | exact True.intro | omega | skip) ?_
  refine Runs.condS rfl (fun g9 => ?_) (fun g9 => ?_)
  · try simp only [decide_eq_true_eq, decide_eq_false_iff_not, notT, notF, beq_iff_eq, beq_eq_false_iff_ne, bne_iff_ne, bne_eq_false_iff_eq, tmodN, tdivN, Int.not_lt, Int.not_le] at g9
    refine Runs.skip ?_
    refine Runs.seq ?_
    refine Runs.block ?_
    refine Runs.seq ?_
    refine Runs.reg [] [0, 1, 3] rfl (by (try simp only [wrap_i64', wrap_u8, wrap_u16, wrap_u32, wrap_u64, wrap_i32, List.length_cons, List.length_nil, List.length_append, List.length_map, tmodN, tdivN]); and_intros <;> first | exact True.intro | omega | skip) ?_
    refine Runs.condS rfl (fun g16 => ?_) (fun g16 => ?_)
    · try simp only [decide_eq_true_eq, decide_eq_false_iff_not, notT, notF, beq_iff_eq, beq_eq_false_iff_ne, bne_iff_ne, bne_eq_false_iff_eq, tmodN, tdivN, Int.not_lt, Int.not_le] at g16
      refine Runs.seq ?_
      refine Runs.reg [] [0] rfl (by (try simp only [wrap_i64', wrap_u8, wrap_u16, wrap_u32, wrap_u64, wrap_i32, List.length_cons, List.length_nil, List.length_append, List.length_map, tmodN, tdivN]); and_intros <;> first | exact True.intro | omega | skip) ?_
      exact Runs.retH Try.func39 rfl rfl (by rw [hi.hit (by omega) (UInt8.toNat_inj.1 (Int.ofNat_inj.1 g16))]) (by rfl)
    · try simp only [decide_eq_true_eq, decide_eq_false_iff_not, notT, notF, beq_iff_eq, beq_eq_false_iff_ne, bne_iff_ne, bne_eq_false_iff_eq, tmodN, tdivN, Int.not_lt, Int.not_le] at g16
      refine Runs.skip ?_
      refine Runs.inBlock ?_
      refine Runs.reg [] [] rfl (by (try simp only [wrap_i64', wrap_u8, wrap_u16, wrap_u32, wrap_u64, wrap_i32, List.length_cons, List.length_nil, List.length_append, List.length_map, tmodN, tdivN]); and_intros <;> first | exact True.intro | omega | skip) ?_
      exact ih (i + 1) _ _ (by exact hi.step (by omega) (fun e => g16 (by rw [← e]; rfl))) (by omega) (by exact agree_cons rfl (by first | with_reducible rfl | (refine congrArg (AV.int _) ?_; (try simp only [wrap_i64', wrap_u8, wrap_u16, wrap_u32, wrap_u64, wrap_i32, List.length_cons, List.length_nil, List.length_append, List.length_map, tmodN, tdivN]); omega) | rfl | skip) (agree_cons rfl (by first | with_reducible rfl | (refine congrArg (AV.int _) ?_; (try simp only [wrap_i64', wrap_u8, wrap_u16, wrap_u32, wrap_u64, wrap_i32, List.length_cons, List.length_nil, List.length_append, List.length_map, tmodN, tdivN]); omega) | rfl | skip) (agree_cons rfl (by first | with_reducible rfl | (refine congrArg (AV.int _) ?_; (try simp only [wrap_i64', wrap_u8, wrap_u16, wrap_u32, wrap_u64, wrap_i32, List.length_cons, List.length_nil, List.length_append, List.length_map, tmodN, tdivN]); omega) | rfl | skip) (trivial)))) (by rfl)
  · try simp only [decide_eq_true_eq, decide_eq_false_iff_not, notT, notF, beq_iff_eq, beq_eq_false_iff_ne, bne_iff_ne, bne_eq_false_iff_eq, tmodN, tdivN, Int.not_lt, Int.not_le] at g9
    refine Runs.exit rfl ?_
    refine Runs.seq ?_
    refine Runs.reg [] [] rfl (by (try simp only [wrap_i64', wrap_u8, wrap_u16, wrap_u32, wrap_u64, wrap_i32, List.length_cons, List.length_nil, List.length_append, List.length_map, tmodN, tdivN]); and_intros <;> first | exact True.intro | omega | skip) ?_
    exact Runs.retH Try.func39 rfl rfl (by rw [hi.done (by omega)]) (by rfl)

theorem runhex_ok (s : List UInt8) (hs : s.length ≤ 16777216) : FnOK Try.prog 12 [.str s] [] (.tup [.bs ((unhexL s).getD []) false, .bool (unhexL s).isSome]) [] := by
  refine FnOK.of_runs Try.func12 rfl (Nat.le_of_ble_eq_true rfl) ?_
  refine Runs.seq ?_
  refine Runs.reg [] [] rfl (by (try simp only [wrap_i64', wrap_u8, wrap_u16, wrap_u32, wrap_u64, wrap_i32, List.length_cons, List.length_nil, List.length_append, List.length_map, tmodN, tdivN]); and_intros <;> first | exact True.intro | omega | skip) ?_
  refine Runs.seq ?_
  refine Runs.seq ?_
  refine Runs.reg [] [0] rfl (by and_intros <;> first | exact True.intro | omega) ?_
  refine Runs.condS rfl (fun g11 => ?_) (fun g11 => ?_)
  · try simp only [decide_eq_true_eq, decide_eq_false_iff_not, notT, notF, beq_iff_eq, beq_eq_false_iff_ne, bne_iff_ne, bne_eq_false_iff_eq, tmodN, tdivN, Int.not_lt, Int.not_le] at g11
    refine Runs.seq ?_
    refine Runs.reg [] [] rfl (by (try simp only [wrap_i64', wrap_u8, wrap_u16, wrap_u32, wrap_u64, wrap_i32, List.length_cons, List.length_nil, List.length_append, List.length_map, tmodN, tdivN]); and_intros <;> first | exact True.intro | omega | skip) ?_
    exact Runs.retH Try.func12 rfl rfl (by rw [unhex_odd (by omega)]; rfl) (by rfl)
  · try simp only [decide_eq_true_eq, decide_eq_false_iff_not, notT, notF, beq_iff_eq, beq_eq_false_iff_ne, bne_iff_ne, bne_eq_false_iff_eq, tmodN, tdivN, Int.not_lt, Int.not_le] at g11
    refine Runs.skip ?_
    refine Runs.seq ?_
    refine Runs.reg [] [] rfl (by (try simp only [wrap_i64', wrap_u8, wrap_u16, wrap_u32, wrap_u64, wrap_i32, List.length_cons, List.length_nil, List.length_append, List.length_map, tmodN, tdivN]); and_intros <;> first | exact True.intro | omega | skip) ?_
    refine Runs.seq ?_
    refine Runs.seq ?_
    refine Runs.reg [] [] rfl (by (try simp only [wrap_i64', wrap_u8, wrap_u16, wrap_u32, wrap_u64, wrap_i32, List.length_cons, List.length_nil, List.length_append, List.length_map, tmodN, tdivN]); and_intros <;> first | exact True.intro | omega | skip) ?_
    refine Runs.block ?_
    -- loop 0
    refine Runs.loopF (σ := Nat × List UInt8) (fun p => UnI s p.1 p.2) (fun p => [(0, .str s), (4, .bs p.2 true), (5, .int .i64 p.1)]) (fun _ => []) (fun p => s.length + 1 - p.1) ((0, [])) (by exact UnI.start (by omega)) (by exact agree_cons rfl (by first | with_reducible rfl | (refine congrArg (AV.int _) ?_; (try simp only [wrap_i64', wrap_u8, wrap_u16, wrap_u32, wrap_u64, wrap_i32, List.length_cons, List.length_nil, List.length_append, List.length_map, tmodN, tdivN]); omega) | rfl | skip) (agree_cons rfl (by first | with_reducible rfl | (refine congrArg (AV.int _) ?_; (try simp only [wrap_i64', wrap_u8, wrap_u16, wrap_u32, wrap_u64, wrap_i32, List.length_cons, List.length_nil, List.length_append, List.length_map, tmodN, tdivN]); omega) | rfl | skip) (agree_cons rfl (by first | with_reducible rfl | (refine congrArg (AV.int _) ?_; (try simp only [wrap_i64', wrap_u8, wrap_u16, wrap_u32, wrap_u64, wrap_i32, List.length_cons, List.length_nil, List.length_append, List.length_map, tmodN, tdivN]); omega) | rfl | skip) (trivial)))) (by rfl) (fun ⟨i, out⟩ hi ih => ?_)
    have hi : UnI s i out := hi; have hle := hi.le; have hev := hi.ev; have hevs := hi.evs; have hlen := hi.len
    refine Runs.seq ?_
    refine Runs.seq ?_
    refine Runs.reg [] [0, 1] rfl (by (try simp only [wrap_i64', wrap_u8, wrap_u16, wrap_u32, wrap_u64, wrap_i32, List.length_cons, List.length_nil, List.length_append, List.length_map, tmodN, tdivN]); and_intros <;> first | exact True.intro | omega | skip) ?_
    refine Runs.condS rfl (fun g15 => ?_) (fun g15 => ?_)
    · try simp only [decide_eq_true_eq, decide_eq_false_iff_not, notT, notF, beq_iff_eq, beq_eq_false_iff_ne, bne_iff_ne, bne_eq_false_iff_eq, tmodN, tdivN, Int.not_lt, Int.not_le] at g15
      refine Runs.skip ?_
      refine Runs.seq ?_
      refine Runs.block ?_
      refine Runs.seq ?_
      refine Runs.reg [(3, { res := .int .i64 (fndI HX (s.getD (i : Int).toNat 0)) })] [0, 1] rfl (by and_intros <;> first | exact True.intro | omega | exact find_ok HX _ (by decide)) ?_
      refine Runs.seq ?_
      refine Runs.reg [(4, { res := .int .i64 (fndI HX (s.getD (IntKind.i64.wrap ((i : Int) + 1)).toNat 0)) })] [0, 1] rfl (by rw [i64_id (by omega) (by omega)]; and_intros <;> first | exact True.intro | omega | exact find_ok HX _ (by decide)) ?_
      refine Runs.seq ?_
      refine Runs.seq ?_
      refine Runs.region ?_
      refine Runs.restTo 3 [] [0, 3] rfl (by (try simp only [wrap_i64', wrap_u8, wrap_u16, wrap_u32, wrap_u64, wrap_i32, List.length_cons, List.length_nil, List.length_append, List.length_map, tmodN, tdivN]); and_intros <;> first | exact True.intro | omega | skip) ?_
      refine Runs.splitS 29 rfl (fun g29 => ?_) (fun g29 => ?_)
      · try simp only [decide_eq_true_eq, decide_eq_false_iff_not, notT, notF, beq_iff_eq, beq_eq_false_iff_ne, bne_iff_ne, bne_eq_false_iff_eq, tmodN, tdivN, Int.not_lt, Int.not_le] at g29
        refine Runs.rest [] [0, 3] rfl (by (try simp only [wrap_i64', wrap_u8, wrap_u16, wrap_u32, wrap_u64, wrap_i32, List.length_cons, List.length_nil, List.length_append, List.length_map, tmodN, tdivN]); and_intros <;> first | exact True.intro | omega | skip) ?_
        refine Runs.condT rfl ?_
        refine Runs.seq ?_
        refine Runs.reg [] [] rfl (by (try simp only [wrap_i64', wrap_u8, wrap_u16, wrap_u32, wrap_u64, wrap_i32, List.length_cons, List.length_nil, List.length_append, List.length_map, tmodN, tdivN]); and_intros <;> first | exact True.intro | omega | skip) ?_
        exact Runs.retH Try.func12 rfl rfl (by rw [hi.none1 (by omega) (fnd_none g29)]; rfl) (by rfl)
      · try simp only [decide_eq_true_eq, decide_eq_false_iff_not, notT, notF, beq_iff_eq, beq_eq_false_iff_ne, bne_iff_ne, bne_eq_false_iff_eq, tmodN, tdivN, Int.not_lt, Int.not_le] at g29
        refine Runs.rest [] [0, 3] rfl (by (try simp only [wrap_i64', wrap_u8, wrap_u16, wrap_u32, wrap_u64, wrap_i32, List.length_cons, List.length_nil, List.length_append, List.length_map, tmodN, tdivN]); and_intros <;> first | exact True.intro | omega | skip) ?_
        refine Runs.condS rfl (fun g32 => ?_) (fun g32 => ?_)
        · try simp only [decide_eq_true_eq, decide_eq_false_iff_not, notT, notF, beq_iff_eq, beq_eq_false_iff_ne, bne_iff_ne, bne_eq_false_iff_eq, tmodN, tdivN, Int.not_lt, Int.not_le] at g32
          refine Runs.seq ?_
          refine Runs.reg [] [] rfl (by (try simp only [wrap_i64', wrap_u8, wrap_u16, wrap_u32, wrap_u64, wrap_i32, List.length_cons, List.length_nil, List.length_append, List.length_map, tmodN, tdivN]); and_intros <;> first | exact True.intro | omega | skip) ?_
          exact Runs.retH Try.func12 rfl rfl (by rw [i1 i (by omega)] at g32; rw [hi.none2 (by omega) (fnd_none g32)]; rfl) (by rfl)
        · try simp only [decide_eq_true_eq, decide_eq_false_iff_not, notT, notF, beq_iff_eq, beq_eq_false_iff_ne, bne_iff_ne, bne_eq_false_iff_eq, tmodN, tdivN, Int.not_lt, Int.not_le] at g32
          refine Runs.skip ?_
          obtain ⟨x, hx⟩ := fnd_some g29
          rw [i1 i (by omega)] at g32
          obtain ⟨y, hy⟩ := fnd_some g32
          refine Runs.reg [] [] rfl (by rw [fndI_hv, fndI_hv, hx, i1 i (by omega), hy]; simp only []; rw [u16xy (hv_lt hx) (hv_lt hy)]; have := hv_lt hx; have := hv_lt hy; simp only [List.length_cons, List.length_nil, List.length_map]; and_intros <;> first | exact True.intro | omega | (intro z hz; simp only [List.mem_cons, List.not_mem_nil, or_false] at hz; omega)) ?_
          refine Runs.inBlock ?_
          refine Runs.reg [] [] rfl (by (try simp only [wrap_i64', wrap_u8, wrap_u16, wrap_u32, wrap_u64, wrap_i32, List.length_cons, List.length_nil, List.length_append, List.length_map, tmodN, tdivN]); and_intros <;> first | exact True.intro | omega | skip) ?_
          exact ih (i + 2, out ++ [UInt8.ofNat (16 * x + y)]) _ _ (by exact hi.step (by omega) hx hy) (by simp only; omega) (by exact agree_cons rfl (by first | with_reducible rfl | (refine congrArg (AV.int _) ?_; (try simp only [wrap_i64', wrap_u8, wrap_u16, wrap_u32, wrap_u64, wrap_i32, List.length_cons, List.length_nil, List.length_append, List.length_map, tmodN, tdivN]); omega) | rfl | skip) (agree_cons rfl (by rw [fndI_hv, fndI_hv, hx, i1 i (by omega), hy]; simp only []; rw [u16xy (hv_lt hx) (hv_lt hy)]; exact congrArg (AV.bs · true) (by simp only [List.map_cons, List.map_nil, toB_ofNat])) (agree_cons rfl (by first | with_reducible rfl | (refine congrArg (AV.int _) ?_; (try simp only [wrap_i64', wrap_u8, wrap_u16, wrap_u32, wrap_u64, wrap_i32, List.length_cons, List.length_nil, List.length_append, List.length_map, tmodN, tdivN]); omega) | rfl | skip) (trivial)))) (by rfl)
    · try simp only [decide_eq_true_eq, decide_eq_false_iff_not, notT, notF, beq_iff_eq, beq_eq_false_iff_ne, bne_iff_ne, bne_eq_false_iff_eq, tmodN, tdivN, Int.not_lt, Int.not_le] at g15
      refine Runs.exit rfl ?_
      refine Runs.seq ?_
      refine Runs.reg [] [0] rfl (by (try simp only [wrap_i64', wrap_u8, wrap_u16, wrap_u32, wrap_u64, wrap_i32, List.length_cons, List.length_nil, List.length_append, List.length_map, tmodN, tdivN]); and_intros <;> first | exact True.intro | omega | skip) ?_
      exact Runs.retH Try.func12 rfl rfl (by rw [hi.done (by omega)]; rfl) (by rfl)


def decF : List UInt8 → Nat → Option Nat
  | [], n => some n
  | c :: r, n => if 48 ≤ c.toNat ∧ c.toNat ≤ 57 then decF r (10 * n + (c.toNat - 48)) else none
def intF (s : List UInt8) : Option Nat := if s.length < 1 ∨ 18 < s.length ∨ (1 < s.length ∧ (s.getD 0 0).toNat = 48) then none else decF s 0
structure DecI (s : List UInt8) (i n : Nat) : Prop where
  le : i ≤ s.length
  le18 : s.length ≤ 18
  lt : n < 10 ^ i
  eq : decF s 0 = decF (s.drop i) n
theorem DecI.n17 {s i n} (h : DecI s i n) (hi : i < s.length) : n < 100000000000000000 := by
  have h1 := h.le18
  exact Nat.lt_of_lt_of_le h.lt (Nat.pow_le_pow_right (n := 10) (by decide) (show i ≤ 17 by omega))
theorem DecI.n18 {s i n} (h : DecI s i n) : n < 1000000000000000000 := by
  have h1 := h.le18; have h2 := h.le
  exact Nat.lt_of_lt_of_le h.lt (Nat.pow_le_pow_right (n := 10) (by decide) (show i ≤ 18 by omega))
theorem DecI.bad {s i n} (h : DecI s i n) (hi : i < s.length) (hc : ¬ (48 ≤ (s.getD i 0).toNat ∧ (s.getD i 0).toNat ≤ 57)) : decF s 0 = none := by
  rw [h.eq, List.drop_eq_getElem_cons hi, decF]
  have : s[i] = s.getD i 0 := by rw [List.getD_eq_getElem?_getD, List.getElem?_eq_getElem hi]; rfl
  rw [this, if_neg hc]
theorem DecI.step {s i n} (h : DecI s i n) (hi : i < s.length) (hc : 48 ≤ (s.getD i 0).toNat ∧ (s.getD i 0).toNat ≤ 57) : DecI s (i + 1) (10 * n + ((s.getD i 0).toNat - 48)) := by
  refine ⟨by omega, h.le18, ?_, ?_⟩
  · have := h.lt
    rw [Nat.pow_succ]; omega
  · rw [h.eq, List.drop_eq_getElem_cons hi, decF]
    have : s[i] = s.getD i 0 := by rw [List.getD_eq_getElem?_getD, List.getElem?_eq_getElem hi]; rfl
    rw [this, if_pos hc]
theorem DecI.done {s i n} (h : DecI s i n) (hi : s.length ≤ i) : decF s 0 = some n := by
  rw [h.eq, List.drop_eq_nil_of_le hi, decF]
theorem intF_none {s : List UInt8} (h : s.length < 1 ∨ 18 < s.length ∨ (1 < s.length ∧ (s.getD 0 0).toNat = 48)) : intF s = none := if_pos h
theorem intF_dec {s : List UInt8} (h : ¬ (s.length < 1 ∨ 18 < s.length ∨ (1 < s.length ∧ (s.getD 0 0).toNat = 48))) : intF s = decF s 0 := if_neg h

theorem int_ok (s : List UInt8) (hs : s.length ≤ 16777216) : FnOK Try.prog 41 [.str s] [] (.tup [.int .i64 ((intF s).getD 0 : Nat), .bool (intF s).isSome]) [] := by
  refine FnOK.of_runs Try.func41 rfl (Nat.le_of_ble_eq_true rfl) ?_
  refine Runs.seq ?_
  refine Runs.reg [] [] rfl (by (try simp only [wrap_i64', wrap_u8, wrap_u16, wrap_u32, wrap_u64, wrap_i32, List.length_cons, List.length_nil, List.length_append, List.length_map, tmodN, tdivN]); and_intros <;> first | exact True.intro | omega | skip) ?_
  refine Runs.seq ?_
  refine Runs.seq ?_
  refine Runs.meet (σ := Bool) (fun g => g = true ↔ (s.length < 1 ∨ 18 < s.length ∨ (1 < s.length ∧ (s.getD 0 0).toNat = 48))) (fun g => [(0, .str s), (23, .bool g)]) (fun _ => []) (fun g hg => ?_) (fun meet_a => ?_)
  · skip
    refine Runs.condS rfl (fun g23 => ?_) (fun g23 => ?_)
    · try simp only [decide_eq_true_eq, decide_eq_false_iff_not, notT, notF, beq_iff_eq, beq_eq_false_iff_ne, bne_iff_ne, bne_eq_false_iff_eq, tmodN, tdivN, Int.not_lt, Int.not_le] at g23
      refine Runs.seq ?_
      refine Runs.reg [] [] rfl (by (try simp only [wrap_i64', wrap_u8, wrap_u16, wrap_u32, wrap_u64, wrap_i32, List.length_cons, List.length_nil, List.length_append, List.length_map, tmodN, tdivN]); and_intros <;> first | exact True.intro | omega | skip) ?_
      exact Runs.retH Try.func41 rfl rfl (by rw [intF_none (hg.1 g23)]; rfl) (by rfl)
    · try simp only [decide_eq_true_eq, decide_eq_false_iff_not, notT, notF, beq_iff_eq, beq_eq_false_iff_ne, bne_iff_ne, bne_eq_false_iff_eq, tmodN, tdivN, Int.not_lt, Int.not_le] at g23
      refine Runs.skip ?_
      refine Runs.seq ?_
      refine Runs.reg [] [] rfl (by (try simp only [wrap_i64', wrap_u8, wrap_u16, wrap_u32, wrap_u64, wrap_i32, List.length_cons, List.length_nil, List.length_append, List.length_map, tmodN, tdivN]); and_intros <;> first | exact True.intro | omega | skip) ?_
      refine Runs.seq ?_
      refine Runs.seq ?_
      refine Runs.reg [] [0] rfl (by (try simp only [wrap_i64', wrap_u8, wrap_u16, wrap_u32, wrap_u64, wrap_i32, List.length_cons, List.length_nil, List.length_append, List.length_map, tmodN, tdivN]); and_intros <;> first | exact True.intro | omega | skip) ?_
      refine Runs.block ?_
      -- loop 0
      have hcs := Bool.eq_false_iff.1 g23; rw [Ne, hg] at hcs
      refine Runs.loopF (σ := Nat × Nat) (fun p => DecI s p.1 p.2) (fun p => [(0, .str s), (4, .int .i64 p.2), (25, .int .i64 s.length), (26, .int .i64 p.1)]) (fun _ => []) (fun p => s.length - p.1) ((0, 0)) (by exact ⟨Nat.zero_le _, by omega, by decide, rfl⟩) (by exact agree_cons rfl (by first | with_reducible rfl | (refine congrArg (AV.int _) ?_; (try simp only [wrap_i64', wrap_u8, wrap_u16, wrap_u32, wrap_u64, wrap_i32, List.length_cons, List.length_nil, List.length_append, List.length_map, tmodN, tdivN]); omega) | rfl | skip) (agree_cons rfl (by first | with_reducible rfl | (refine congrArg (AV.int _) ?_; (try simp only [wrap_i64', wrap_u8, wrap_u16, wrap_u32, wrap_u64, wrap_i32, List.length_cons, List.length_nil, List.length_append, List.length_map, tmodN, tdivN]); omega) | rfl | skip) (agree_cons rfl (by first | with_reducible rfl | (refine congrArg (AV.int _) ?_; (try simp only [wrap_i64', wrap_u8, wrap_u16, wrap_u32, wrap_u64, wrap_i32, List.length_cons, List.length_nil, List.length_append, List.length_map, tmodN, tdivN]); omega) | rfl | skip) (agree_cons rfl (by first | with_reducible rfl | (refine congrArg (AV.int _) ?_; (try simp only [wrap_i64', wrap_u8, wrap_u16, wrap_u32, wrap_u64, wrap_i32, List.length_cons, List.length_nil, List.length_append, List.length_map, tmodN, tdivN]); omega) | rfl | skip) (trivial))))) (by rfl) (fun ⟨i, m⟩ hi ih => ?_)
      have hi : DecI s i m := hi; have hle := hi.le; have h18 := hi.le18; have hn := hi.n18; have h17 := hi.n17; have hc := u8lt (s.getD (i : Int).toNat 0)
      refine Runs.seq ?_
      refine Runs.reg [] [] rfl (by (try simp only [wrap_i64', wrap_u8, wrap_u16, wrap_u32, wrap_u64, wrap_i32, List.length_cons, List.length_nil, List.length_append, List.length_map, tmodN, tdivN]); and_intros <;> first | exact True.intro | omega | skip) ?_
      refine Runs.seq ?_
      refine Runs.condS rfl (fun g27 => ?_) (fun g27 => ?_)
      · try simp only [decide_eq_true_eq, decide_eq_false_iff_not, notT, notF, beq_iff_eq, beq_eq_false_iff_ne, bne_iff_ne, bne_eq_false_iff_eq, tmodN, tdivN, Int.not_lt, Int.not_le] at g27
        refine Runs.skip ?_
        refine Runs.seq ?_
        refine Runs.block ?_
        refine Runs.seq ?_
        refine Runs.reg [] [0] rfl (by (try simp only [wrap_i64', wrap_u8, wrap_u16, wrap_u32, wrap_u64, wrap_i32, List.length_cons, List.length_nil, List.length_append, List.length_map, tmodN, tdivN]); and_intros <;> first | exact True.intro | omega | skip) ?_
        refine Runs.seq ?_
        refine Runs.seq ?_
        refine Runs.region ?_
        refine Runs.restTo 5 [] [0, 1, 5, 6] rfl (by (try simp only [wrap_i64', wrap_u8, wrap_u16, wrap_u32, wrap_u64, wrap_i32, List.length_cons, List.length_nil, List.length_append, List.length_map, tmodN, tdivN]); and_intros <;> first | exact True.intro | omega | skip) ?_
        refine Runs.splitS 33 rfl (fun g33 => ?_) (fun g33 => ?_)
        · try simp only [decide_eq_true_eq, decide_eq_false_iff_not, notT, notF, beq_iff_eq, beq_eq_false_iff_ne, bne_iff_ne, bne_eq_false_iff_eq, tmodN, tdivN, Int.not_lt, Int.not_le] at g33
          refine Runs.rest [] [0, 1, 5, 6] rfl (by (try simp only [wrap_i64', wrap_u8, wrap_u16, wrap_u32, wrap_u64, wrap_i32, List.length_cons, List.length_nil, List.length_append, List.length_map, tmodN, tdivN]); and_intros <;> first | exact True.intro | omega | skip) ?_
          refine Runs.condT rfl ?_
          refine Runs.seq ?_
          refine Runs.reg [] [] rfl (by (try simp only [wrap_i64', wrap_u8, wrap_u16, wrap_u32, wrap_u64, wrap_i32, List.length_cons, List.length_nil, List.length_append, List.length_map, tmodN, tdivN]); and_intros <;> first | exact True.intro | omega | skip) ?_
          exact Runs.retH Try.func41 rfl rfl (by rw [intF_dec hcs, hi.bad (by omega) (by simp only [Int.toNat_natCast] at g33; omega)]; rfl) (by rfl)
        · try simp only [decide_eq_true_eq, decide_eq_false_iff_not, notT, notF, beq_iff_eq, beq_eq_false_iff_ne, bne_iff_ne, bne_eq_false_iff_eq, tmodN, tdivN, Int.not_lt, Int.not_le] at g33
          refine Runs.rest [] [0, 1, 5, 6] rfl (by (try simp only [wrap_i64', wrap_u8, wrap_u16, wrap_u32, wrap_u64, wrap_i32, List.length_cons, List.length_nil, List.length_append, List.length_map, tmodN, tdivN]); and_intros <;> first | exact True.intro | omega | skip) ?_
          refine Runs.condS rfl (fun g38 => ?_) (fun g38 => ?_)
          · try simp only [decide_eq_true_eq, decide_eq_false_iff_not, notT, notF, beq_iff_eq, beq_eq_false_iff_ne, bne_iff_ne, bne_eq_false_iff_eq, tmodN, tdivN, Int.not_lt, Int.not_le] at g38
            refine Runs.seq ?_
            refine Runs.reg [] [] rfl (by (try simp only [wrap_i64', wrap_u8, wrap_u16, wrap_u32, wrap_u64, wrap_i32, List.length_cons, List.length_nil, List.length_append, List.length_map, tmodN, tdivN]); and_intros <;> first | exact True.intro | omega | skip) ?_
            exact Runs.retH Try.func41 rfl rfl (by rw [intF_dec hcs, hi.bad (by omega) (by simp only [Int.toNat_natCast] at g38; omega)]; rfl) (by rfl)
          · try simp only [decide_eq_true_eq, decide_eq_false_iff_not, notT, notF, beq_iff_eq, beq_eq_false_iff_ne, bne_iff_ne, bne_eq_false_iff_eq, tmodN, tdivN, Int.not_lt, Int.not_le] at g38
            refine Runs.skip ?_
            refine Runs.reg [] [2, 3] rfl (by (try simp only [wrap_i64', wrap_u8, wrap_u16, wrap_u32, wrap_u64, wrap_i32, List.length_cons, List.length_nil, List.length_append, List.length_map, tmodN, tdivN]); and_intros <;> first | exact True.intro | omega | skip) ?_
            refine Runs.inBlock ?_
            refine Runs.reg [] [] rfl (by (try simp only [wrap_i64', wrap_u8, wrap_u16, wrap_u32, wrap_u64, wrap_i32, List.length_cons, List.length_nil, List.length_append, List.length_map, tmodN, tdivN]); and_intros <;> first | exact True.intro | omega | skip) ?_
            exact ih (i + 1, 10 * m + ((s.getD (i : Int).toNat 0).toNat - 48)) _ _ (by exact hi.step (by omega) ⟨Int.ofNat_le.1 g33, Int.ofNat_le.1 g38⟩) (by simp only; omega) (by exact agree_cons rfl (by first | with_reducible rfl | (refine congrArg (AV.int _) ?_; (try simp only [wrap_i64', wrap_u8, wrap_u16, wrap_u32, wrap_u64, wrap_i32, List.length_cons, List.length_nil, List.length_append, List.length_map, tmodN, tdivN]); omega) | rfl | skip) (agree_cons rfl (by have h17 := h17 (by omega); rw [u8_id (x := ((s.getD (i : Int).toNat 0).toNat : Int) - 48) (by omega) (by omega), i64_id (x := 10 * (m : Int)) (by omega) (by omega), i64_id (x := ((s.getD (i : Int).toNat 0).toNat : Int) - 48) (by omega) (by omega), i64_id (by omega) (by omega)]; refine congrArg (AV.int _) ?_; simp only []; omega) (agree_cons rfl (by first | with_reducible rfl | (refine congrArg (AV.int _) ?_; (try simp only [wrap_i64', wrap_u8, wrap_u16, wrap_u32, wrap_u64, wrap_i32, List.length_cons, List.length_nil, List.length_append, List.length_map, tmodN, tdivN]); omega) | rfl | skip) (agree_cons rfl (by first | with_reducible rfl | (refine congrArg (AV.int _) ?_; (try simp only [wrap_i64', wrap_u8, wrap_u16, wrap_u32, wrap_u64, wrap_i32, List.length_cons, List.length_nil, List.length_append, List.length_map, tmodN, tdivN]); omega) | rfl | skip) (trivial))))) (by rfl)
      · try simp only [decide_eq_true_eq, decide_eq_false_iff_not, notT, notF, beq_iff_eq, beq_eq_false_iff_ne, bne_iff_ne, bne_eq_false_iff_eq, tmodN, tdivN, Int.not_lt, Int.not_le] at g27
        refine Runs.exit rfl ?_
        refine Runs.seq ?_
        refine Runs.reg [] [0] rfl (by (try simp only [wrap_i64', wrap_u8, wrap_u16, wrap_u32, wrap_u64, wrap_i32, List.length_cons, List.length_nil, List.length_append, List.length_map, tmodN, tdivN]); and_intros <;> first | exact True.intro | omega | skip) ?_
        exact Runs.retH Try.func41 rfl rfl (by rw [intF_dec hcs, hi.done (by omega)]; rfl) (by rfl)
  · skip
    refine Runs.region ?_
    refine Runs.restTo 4 [] [0, 4, 9, 13] rfl (by (try simp only [wrap_i64', wrap_u8, wrap_u16, wrap_u32, wrap_u64, wrap_i32, List.length_cons, List.length_nil, List.length_append, List.length_map, tmodN, tdivN]); and_intros <;> first | exact True.intro | omega | skip) ?_
    refine Runs.splitS 9 rfl (fun g9 => ?_) (fun g9 => ?_)
    · try simp only [decide_eq_true_eq, decide_eq_false_iff_not, notT, notF, beq_iff_eq, beq_eq_false_iff_ne, bne_iff_ne, bne_eq_false_iff_eq, tmodN, tdivN, Int.not_lt, Int.not_le] at g9
      refine Runs.rest [] [0, 4, 9, 13] rfl (by (try simp only [wrap_i64', wrap_u8, wrap_u16, wrap_u32, wrap_u64, wrap_i32, List.length_cons, List.length_nil, List.length_append, List.length_map, tmodN, tdivN]); and_intros <;> first | exact True.intro | omega | skip) ?_
      exact meet_a (true) _ _ (by simp only [beq_iff_eq, true_iff, Bool.false_eq_true, false_iff, Int.toNat_zero]; omega) (by exact agree_cons rfl (by first | with_reducible rfl | (refine congrArg (AV.int _) ?_; (try simp only [wrap_i64', wrap_u8, wrap_u16, wrap_u32, wrap_u64, wrap_i32, List.length_cons, List.length_nil, List.length_append, List.length_map, tmodN, tdivN]); omega) | rfl | skip) (agree_cons rfl (by first | with_reducible rfl | (refine congrArg (AV.int _) ?_; (try simp only [wrap_i64', wrap_u8, wrap_u16, wrap_u32, wrap_u64, wrap_i32, List.length_cons, List.length_nil, List.length_append, List.length_map, tmodN, tdivN]); omega) | rfl | skip) (trivial))) (by rfl)
    · try simp only [decide_eq_true_eq, decide_eq_false_iff_not, notT, notF, beq_iff_eq, beq_eq_false_iff_ne, bne_iff_ne, bne_eq_false_iff_eq, tmodN, tdivN, Int.not_lt, Int.not_le] at g9
      refine Runs.restTo 5 [] [0, 4, 9, 13] rfl (by (try simp only [wrap_i64', wrap_u8, wrap_u16, wrap_u32, wrap_u64, wrap_i32, List.length_cons, List.length_nil, List.length_append, List.length_map, tmodN, tdivN]); and_intros <;> first | exact True.intro | omega | skip) ?_
      refine Runs.splitS 14 rfl (fun g14 => ?_) (fun g14 => ?_)
      · try simp only [decide_eq_true_eq, decide_eq_false_iff_not, notT, notF, beq_iff_eq, beq_eq_false_iff_ne, bne_iff_ne, bne_eq_false_iff_eq, tmodN, tdivN, Int.not_lt, Int.not_le] at g14
        refine Runs.rest [] [0, 4, 9, 13] rfl (by (try simp only [wrap_i64', wrap_u8, wrap_u16, wrap_u32, wrap_u64, wrap_i32, List.length_cons, List.length_nil, List.length_append, List.length_map, tmodN, tdivN]); and_intros <;> first | exact True.intro | omega | skip) ?_
        exact meet_a (true) _ _ (by simp only [beq_iff_eq, true_iff, Bool.false_eq_true, false_iff, Int.toNat_zero]; omega) (by exact agree_cons rfl (by first | with_reducible rfl | (refine congrArg (AV.int _) ?_; (try simp only [wrap_i64', wrap_u8, wrap_u16, wrap_u32, wrap_u64, wrap_i32, List.length_cons, List.length_nil, List.length_append, List.length_map, tmodN, tdivN]); omega) | rfl | skip) (agree_cons rfl (by first | with_reducible rfl | (refine congrArg (AV.int _) ?_; (try simp only [wrap_i64', wrap_u8, wrap_u16, wrap_u32, wrap_u64, wrap_i32, List.length_cons, List.length_nil, List.length_append, List.length_map, tmodN, tdivN]); omega) | rfl | skip) (trivial))) (by rfl)
      · try simp only [decide_eq_true_eq, decide_eq_false_iff_not, notT, notF, beq_iff_eq, beq_eq_false_iff_ne, bne_iff_ne, bne_eq_false_iff_eq, tmodN, tdivN, Int.not_lt, Int.not_le] at g14
        refine Runs.restTo 4 [] [0, 4, 9, 13] rfl (by (try simp only [wrap_i64', wrap_u8, wrap_u16, wrap_u32, wrap_u64, wrap_i32, List.length_cons, List.length_nil, List.length_append, List.length_map, tmodN, tdivN]); and_intros <;> first | exact True.intro | omega | skip) ?_
        refine Runs.splitS 18 rfl (fun g18 => ?_) (fun g18 => ?_)
        · try simp only [decide_eq_true_eq, decide_eq_false_iff_not, notT, notF, beq_iff_eq, beq_eq_false_iff_ne, bne_iff_ne, bne_eq_false_iff_eq, tmodN, tdivN, Int.not_lt, Int.not_le] at g18
          refine Runs.rest [] [0, 4, 9, 13] rfl (by (try simp only [wrap_i64', wrap_u8, wrap_u16, wrap_u32, wrap_u64, wrap_i32, List.length_cons, List.length_nil, List.length_append, List.length_map, tmodN, tdivN]); and_intros <;> first | exact True.intro | omega | skip) ?_
          exact meet_a (((s.getD (0 : Int).toNat 0).toNat : Int) == 48) _ _ (by simp only [beq_iff_eq, true_iff, Bool.false_eq_true, false_iff, Int.toNat_zero]; omega) (by exact agree_cons rfl (by first | with_reducible rfl | (refine congrArg (AV.int _) ?_; (try simp only [wrap_i64', wrap_u8, wrap_u16, wrap_u32, wrap_u64, wrap_i32, List.length_cons, List.length_nil, List.length_append, List.length_map, tmodN, tdivN]); omega) | rfl | skip) (agree_cons rfl (by first | with_reducible rfl | (refine congrArg (AV.int _) ?_; (try simp only [wrap_i64', wrap_u8, wrap_u16, wrap_u32, wrap_u64, wrap_i32, List.length_cons, List.length_nil, List.length_append, List.length_map, tmodN, tdivN]); omega) | rfl | skip) (trivial))) (by rfl)
        · try simp only [decide_eq_true_eq, decide_eq_false_iff_not, notT, notF, beq_iff_eq, beq_eq_false_iff_ne, bne_iff_ne, bne_eq_false_iff_eq, tmodN, tdivN, Int.not_lt, Int.not_le] at g18
          refine Runs.rest [] [0, 4, 9, 13] rfl (by (try simp only [wrap_i64', wrap_u8, wrap_u16, wrap_u32, wrap_u64, wrap_i32, List.length_cons, List.length_nil, List.length_append, List.length_map, tmodN, tdivN]); and_intros <;> first | exact True.intro | omega | skip) ?_
          exact meet_a (false) _ _ (by simp only [beq_iff_eq, true_iff, Bool.false_eq_true, false_iff, Int.toNat_zero]; omega) (by exact agree_cons rfl (by first | with_reducible rfl | (refine congrArg (AV.int _) ?_; (try simp only [wrap_i64', wrap_u8, wrap_u16, wrap_u32, wrap_u64, wrap_i32, List.length_cons, List.length_nil, List.length_append, List.length_map, tmodN, tdivN]); omega) | rfl | skip) (agree_cons rfl (by first | with_reducible rfl | (refine congrArg (AV.int _) ?_; (try simp only [wrap_i64', wrap_u8, wrap_u16, wrap_u32, wrap_u64, wrap_i32, List.length_cons, List.length_nil, List.length_append, List.length_map, tmodN, tdivN]); omega) | rfl | skip) (trivial))) (by rfl)


def be4 (n : Nat) : List UInt8 := [UInt8.ofNat (n / 16777216), UInt8.ofNat (n / 65536), UInt8.ofNat (n / 256), UInt8.ofNat n]
def packL (l : List (List UInt8)) : List UInt8 := l.flatMap fun s => be4 s.length ++ s
abbrev strEl (l : List (List UInt8)) : Nat → AV := fun i => .str (l.getD i [])
theorem packL_snoc (l : List (List UInt8)) (s : List UInt8) : packL (l ++ [s]) = packL l ++ be4 s.length ++ s := by simp [packL, List.flatMap_append]
theorem packL_app (l r : List (List UInt8)) : packL (l ++ r) = packL l ++ packL r := by simp [packL, List.flatMap_append]
theorem packL_take (l : List (List UInt8)) (i : Nat) (h : i < l.length) : packL (l.take (i + 1)) = packL (l.take i) ++ be4 (l.getD i []).length ++ l.getD i [] := by
  rw [take_succ' l i [] h, packL_snoc]
theorem packL_le (l : List (List UInt8)) (i : Nat) : (packL (l.take i)).length ≤ (packL l).length := by
  have := congrArg List.length (packL_app (l.take i) (l.drop i))
  rw [List.take_append_drop, List.length_append] at this; omega
theorem packL_len1 (l : List (List UInt8)) (i : Nat) (h : i < l.length) : (packL (l.take (i + 1))).length = (packL (l.take i)).length + (4 + (l.getD i []).length) := by
  rw [packL_take l i h]; simp [be4]; omega
theorem shr24 (n : Nat) : (n : Int).fdiv (2 ^ min (Int.toNat 24) IntKind.i64.bits) = ((n / 16777216 : Nat) : Int) := by
  show (n : Int).fdiv 16777216 = _
  rw [Int.fdiv_eq_ediv_of_nonneg _ (by decide)]; rfl
theorem shr16 (n : Nat) : (n : Int).fdiv (2 ^ min (Int.toNat 16) IntKind.i64.bits) = ((n / 65536 : Nat) : Int) := by
  show (n : Int).fdiv 65536 = _
  rw [Int.fdiv_eq_ediv_of_nonneg _ (by decide)]; rfl
theorem shr8 (n : Nat) : (n : Int).fdiv (2 ^ min (Int.toNat 8) IntKind.i64.bits) = ((n / 256 : Nat) : Int) := by
  show (n : Int).fdiv 256 = _
  rw [Int.fdiv_eq_ediv_of_nonneg _ (by decide)]; rfl
theorem toB_mod (n : Nat) : toB ((n : Int) % 256) = UInt8.ofNat n := by
  unfold toB
  apply UInt8.toNat_inj.1
  simp only [UInt8.toNat_ofNat']
  omega
theorem pack_bytes (n : Nat) : List.map toB [IntKind.u8.wrap ((n / 16777216 : Nat) : Int), IntKind.u8.wrap ((n / 65536 : Nat) : Int), IntKind.u8.wrap ((n / 256 : Nat) : Int), IntKind.u8.wrap (n : Int)] = be4 n := by
  simp only [wrap_u8, List.map_cons, List.map_nil, toB_mod, be4]
theorem inj {a b : List UInt8} {o : Bool} (h : a = b) : AV.bs a o = AV.bs b o := by rw [h]
theorem sinj {a b : List UInt8} (h : a = b) : AV.str a = AV.str b := by rw [h]
def put64L (n : Nat) : List UInt8 := (List.range 8).map fun k => UInt8.ofNat (n / 2 ^ (56 - 8 * k))
def putBlk (n i : Nat) : List AV := (List.range 8).map fun k => .int .u8 (if k < i then ((UInt8.ofNat (n / 2 ^ (56 - 8 * k))).toNat : Int) else 0)
theorem putBlk_set (n i : Nat) (h : i < 8) : (putBlk n i).set i (.int .u8 (UInt8.ofNat (n / 2 ^ (56 - 8 * i))).toNat) = putBlk n (i + 1) := by
  apply List.ext_getElem?
  intro k
  simp only [putBlk, List.getElem?_set, List.getElem?_map, List.length_map, List.length_range]
  by_cases hk : k < 8
  · rw [List.getElem?_range hk]
    by_cases e : i = k
    · subst e; simp [h]
    · rw [if_neg e]
      simp only [Option.map_some]
      by_cases h1 : k < i
      · rw [if_pos h1, if_pos (by omega)]
      · rw [if_neg h1, if_neg (by omega)]
  · have : (List.range 8)[k]? = none := by simp; omega
    rw [this]
    by_cases e : i = k
    · omega
    · simp [e]
theorem put_done (n i : Nat) (h1 : i ≤ 8) (h2 : 8 ≤ i) : List.take 8 (List.drop 0 (putBlk n i)) = (put64L n).map fun c => .int .u8 c.toNat := by
  have : i = 8 := by omega
  subst this
  rw [List.drop_zero, List.take_of_length_le (by simp [putBlk])]
  unfold putBlk put64L
  rw [List.map_map]
  refine List.map_congr_left fun k hk => ?_
  simp only [Function.comp, if_pos (List.mem_range.1 hk)]
theorem u8mod (n : Nat) : IntKind.u8.wrap (n : Int) = ((UInt8.ofNat n).toNat : Int) := by rw [wrap_u8]; simp
theorem put_val (n i : Nat) (h : i < 8) : IntKind.u8.wrap ((n : Int).fdiv (2 ^ min (IntKind.i64.wrap (56 - IntKind.i64.wrap (8 * (i : Int)))).toNat IntKind.u64.bits)) = ((UInt8.ofNat (n / 2 ^ (56 - 8 * i))).toNat : Int) := by
  have e : (IntKind.i64.wrap (56 - IntKind.i64.wrap (8 * (i : Int)))).toNat = 56 - 8 * i := by
    rw [i64_id (x := 8 * (i : Int)) (by omega) (by omega), i64_id (by omega) (by omega)]; omega
  have e2 : min (56 - 8 * i) IntKind.u64.bits = 56 - 8 * i := Nat.min_eq_left (by show _ ≤ 64; omega)
  rw [e, e2, Int.fdiv_eq_ediv_of_nonneg _ (by exact_mod_cast Nat.zero_le (2 ^ (56 - 8 * i))), show ((n : Int) / 2 ^ (56 - 8 * i)) = ((n / 2 ^ (56 - 8 * i) : Nat) : Int) by push_cast; rfl, u8mod]

theorem pack_ok (l : List (List UInt8)) (o : Bool) (hl : l.length ≤ 16777216) (hb : (packL l).length ≤ 8388608) : FnOK Try.prog 17 [.sl 1 l.length (strEl l) o] [] (.bs (packL l) false) [] := by
  refine FnOK.of_runs Try.func17 rfl (Nat.le_of_ble_eq_true rfl) ?_
  refine Runs.seq ?_
  refine Runs.reg [] [] rfl (by (try simp only [wrap_i64', wrap_u8, wrap_u16, wrap_u32, wrap_u64, wrap_i32, List.length_cons, List.length_nil, List.length_append, List.length_map, tmodN, tdivN]); and_intros <;> first | exact True.intro | omega | skip) ?_
  refine Runs.seq ?_
  refine Runs.reg [] [] rfl (by (try simp only [wrap_i64', wrap_u8, wrap_u16, wrap_u32, wrap_u64, wrap_i32, List.length_cons, List.length_nil, List.length_append, List.length_map, tmodN, tdivN]); and_intros <;> first | exact True.intro | omega | skip) ?_
  refine Runs.seq ?_
  refine Runs.seq ?_
  refine Runs.reg [] [0] rfl (by (try simp only [wrap_i64', wrap_u8, wrap_u16, wrap_u32, wrap_u64, wrap_i32, List.length_cons, List.length_nil, List.length_append, List.length_map, tmodN, tdivN]); and_intros <;> first | exact True.intro | omega | skip) ?_
  refine Runs.block ?_
  -- loop 0
  refine Runs.loopF (σ := Nat) (fun i => i ≤ l.length) (fun i => [(0, .sl 1 l.length (strEl l) o), (3, .int .i64 (packL (l.take i)).length), (10, .sl 1 l.length (strEl l) false), (11, .int .i64 l.length), (12, .int .i64 i)]) (fun _ => []) (fun i => l.length - i) (0) (by exact Nat.zero_le _) (by exact agree_cons rfl (by first | with_reducible rfl | (refine congrArg (AV.int _) ?_; (try simp only [wrap_i64', wrap_u8, wrap_u16, wrap_u32, wrap_u64, wrap_i32, List.length_cons, List.length_nil, List.length_append, List.length_map, tmodN, tdivN]); omega) | rfl | skip) (agree_cons rfl (by first | with_reducible rfl | (refine congrArg (AV.int _) ?_; (try simp only [wrap_i64', wrap_u8, wrap_u16, wrap_u32, wrap_u64, wrap_i32, List.length_cons, List.length_nil, List.length_append, List.length_map, tmodN, tdivN]); omega) | rfl | skip) (agree_cons rfl (by first | with_reducible rfl | (refine congrArg (AV.int _) ?_; (try simp only [wrap_i64', wrap_u8, wrap_u16, wrap_u32, wrap_u64, wrap_i32, List.length_cons, List.length_nil, List.length_append, List.length_map, tmodN, tdivN]); omega) | rfl | skip) (agree_cons rfl (by first | with_reducible rfl | (refine congrArg (AV.int _) ?_; (try simp only [wrap_i64', wrap_u8, wrap_u16, wrap_u32, wrap_u64, wrap_i32, List.length_cons, List.length_nil, List.length_append, List.length_map, tmodN, tdivN]); omega) | rfl | skip) (agree_cons rfl (by first | with_reducible rfl | (refine congrArg (AV.int _) ?_; (try simp only [wrap_i64', wrap_u8, wrap_u16, wrap_u32, wrap_u64, wrap_i32, List.length_cons, List.length_nil, List.length_append, List.length_map, tmodN, tdivN]); omega) | rfl | skip) (trivial)))))) (by rfl) (fun i hi ih => ?_)
  have hp := packL_le l i; have hp1 := packL_le l (i + 1); have hp2 := packL_len1 l i
  refine Runs.seq ?_
  refine Runs.reg [] [] rfl (by (try simp only [wrap_i64', wrap_u8, wrap_u16, wrap_u32, wrap_u64, wrap_i32, List.length_cons, List.length_nil, List.length_append, List.length_map, tmodN, tdivN]); and_intros <;> first | exact True.intro | omega | skip) ?_
  refine Runs.seq ?_
  refine Runs.condS rfl (fun g13 => ?_) (fun g13 => ?_)
  · try simp only [decide_eq_true_eq, decide_eq_false_iff_not, notT, notF, beq_iff_eq, beq_eq_false_iff_ne, bne_iff_ne, bne_eq_false_iff_eq, tmodN, tdivN, Int.not_lt, Int.not_le] at g13
    refine Runs.skip ?_
    refine Runs.seq ?_
    refine Runs.block ?_
    refine Runs.seq ?_
    refine Runs.reg [] [] rfl (by (try simp only [wrap_i64', wrap_u8, wrap_u16, wrap_u32, wrap_u64, wrap_i32, List.length_cons, List.length_nil, List.length_append, List.length_map, tmodN, tdivN]); and_intros <;> first | exact True.intro | omega | skip) ?_
    refine Runs.reg [] [1] rfl (by (try simp only [wrap_i64', wrap_u8, wrap_u16, wrap_u32, wrap_u64, wrap_i32, List.length_cons, List.length_nil, List.length_append, List.length_map, tmodN, tdivN]); and_intros <;> first | exact True.intro | omega | skip) ?_
    refine Runs.inBlock ?_
    refine Runs.reg [] [] rfl (by (try simp only [wrap_i64', wrap_u8, wrap_u16, wrap_u32, wrap_u64, wrap_i32, List.length_cons, List.length_nil, List.length_append, List.length_map, tmodN, tdivN]); and_intros <;> first | exact True.intro | omega | skip) ?_
    exact ih (i + 1) _ _ (by first | exact True.intro | omega) (by omega) (by exact agree_cons rfl (by first | with_reducible rfl | (refine congrArg (AV.int _) ?_; (try simp only [wrap_i64', wrap_u8, wrap_u16, wrap_u32, wrap_u64, wrap_i32, List.length_cons, List.length_nil, List.length_append, List.length_map, tmodN, tdivN]); omega) | rfl | skip) (agree_cons rfl (by have hp2 := hp2 (by omega); rw [i64_id (x := 4 + ((l.getD (i : Int).toNat []).length : Int)) (by simp only [Int.toNat_natCast]; omega) (by simp only [Int.toNat_natCast]; omega), i64_id (by simp only [Int.toNat_natCast]; omega) (by simp only [Int.toNat_natCast]; omega)]; refine congrArg (AV.int _) ?_; simp only [Int.toNat_natCast]; omega) (agree_cons rfl (by first | with_reducible rfl | (refine congrArg (AV.int _) ?_; (try simp only [wrap_i64', wrap_u8, wrap_u16, wrap_u32, wrap_u64, wrap_i32, List.length_cons, List.length_nil, List.length_append, List.length_map, tmodN, tdivN]); omega) | rfl | skip) (agree_cons rfl (by first | with_reducible rfl | (refine congrArg (AV.int _) ?_; (try simp only [wrap_i64', wrap_u8, wrap_u16, wrap_u32, wrap_u64, wrap_i32, List.length_cons, List.length_nil, List.length_append, List.length_map, tmodN, tdivN]); omega) | rfl | skip) (agree_cons rfl (by first | with_reducible rfl | (refine congrArg (AV.int _) ?_; (try simp only [wrap_i64', wrap_u8, wrap_u16, wrap_u32, wrap_u64, wrap_i32, List.length_cons, List.length_nil, List.length_append, List.length_map, tmodN, tdivN]); omega) | rfl | skip) (trivial)))))) (by rfl)
  · try simp only [decide_eq_true_eq, decide_eq_false_iff_not, notT, notF, beq_iff_eq, beq_eq_false_iff_ne, bne_iff_ne, bne_eq_false_iff_eq, tmodN, tdivN, Int.not_lt, Int.not_le] at g13
    refine Runs.exit rfl ?_
    refine Runs.seq ?_
    refine Runs.reg [] [0] rfl (by rw [List.take_of_length_le (by omega)]; and_intros <;> first | exact True.intro | omega) ?_
    refine Runs.seq ?_
    refine Runs.seq ?_
    refine Runs.reg [] [0] rfl (by (try simp only [wrap_i64', wrap_u8, wrap_u16, wrap_u32, wrap_u64, wrap_i32, List.length_cons, List.length_nil, List.length_append, List.length_map, tmodN, tdivN]); and_intros <;> first | exact True.intro | omega | skip) ?_
    refine Runs.block ?_
    -- loop 1
    refine Runs.loopF (σ := Nat) (fun i => i ≤ l.length) (fun i => [(6, .bs (packL (l.take i)) true), (24, .sl 1 l.length (strEl l) false), (25, .int .i64 l.length), (26, .int .i64 i)]) (fun _ => []) (fun i => l.length - i) (0) (by exact Nat.zero_le _) (by exact agree_cons rfl (by first | with_reducible rfl | (refine congrArg (AV.int _) ?_; (try simp only [wrap_i64', wrap_u8, wrap_u16, wrap_u32, wrap_u64, wrap_i32, List.length_cons, List.length_nil, List.length_append, List.length_map, tmodN, tdivN]); omega) | rfl | skip) (agree_cons rfl (by first | with_reducible rfl | (refine congrArg (AV.int _) ?_; (try simp only [wrap_i64', wrap_u8, wrap_u16, wrap_u32, wrap_u64, wrap_i32, List.length_cons, List.length_nil, List.length_append, List.length_map, tmodN, tdivN]); omega) | rfl | skip) (agree_cons rfl (by first | with_reducible rfl | (refine congrArg (AV.int _) ?_; (try simp only [wrap_i64', wrap_u8, wrap_u16, wrap_u32, wrap_u64, wrap_i32, List.length_cons, List.length_nil, List.length_append, List.length_map, tmodN, tdivN]); omega) | rfl | skip) (agree_cons rfl (by first | with_reducible rfl | (refine congrArg (AV.int _) ?_; (try simp only [wrap_i64', wrap_u8, wrap_u16, wrap_u32, wrap_u64, wrap_i32, List.length_cons, List.length_nil, List.length_append, List.length_map, tmodN, tdivN]); omega) | rfl | skip) (trivial))))) (by rfl) (fun j hj ih => ?_)
    have hp := packL_le l j; have hp1 := packL_le l (j + 1); have hp2 := packL_len1 l j
    refine Runs.seq ?_
    refine Runs.reg [] [] rfl (by (try simp only [wrap_i64', wrap_u8, wrap_u16, wrap_u32, wrap_u64, wrap_i32, List.length_cons, List.length_nil, List.length_append, List.length_map, tmodN, tdivN]); and_intros <;> first | exact True.intro | omega | skip) ?_
    refine Runs.seq ?_
    refine Runs.condS rfl (fun g27 => ?_) (fun g27 => ?_)
    · try simp only [decide_eq_true_eq, decide_eq_false_iff_not, notT, notF, beq_iff_eq, beq_eq_false_iff_ne, bne_iff_ne, bne_eq_false_iff_eq, tmodN, tdivN, Int.not_lt, Int.not_le] at g27
      refine Runs.skip ?_
      refine Runs.seq ?_
      refine Runs.block ?_
      refine Runs.seq ?_
      refine Runs.reg [] [] rfl (by (try simp only [wrap_i64', wrap_u8, wrap_u16, wrap_u32, wrap_u64, wrap_i32, List.length_cons, List.length_nil, List.length_append, List.length_map, tmodN, tdivN]); and_intros <;> first | exact True.intro | omega | skip) ?_
      refine Runs.seq ?_
      refine Runs.reg [] [0] rfl (by (try simp only [wrap_i64', wrap_u8, wrap_u16, wrap_u32, wrap_u64, wrap_i32, List.length_cons, List.length_nil, List.length_append, List.length_map, tmodN, tdivN]); and_intros <;> first | exact True.intro | omega | skip) ?_
      refine Runs.seq ?_
      refine Runs.reg [] [1, 4, 7, 10] rfl (by have hp2 := hp2 (by omega); rw [shr24, shr16, shr8]; simp only [List.length_cons, List.length_nil, List.length_map]; and_intros <;> first | exact True.intro | omega | (intro z hz; simp only [List.mem_cons, List.not_mem_nil, or_false, wrap_u8] at hz; omega)) ?_
      refine Runs.reg [] [] rfl (by have hp2 := hp2 (by omega); simp only [List.length_append, List.length_cons, List.length_nil, List.length_map, Int.toNat_natCast]; and_intros <;> first | exact True.intro | omega) ?_
      refine Runs.inBlock ?_
      refine Runs.reg [] [] rfl (by (try simp only [wrap_i64', wrap_u8, wrap_u16, wrap_u32, wrap_u64, wrap_i32, List.length_cons, List.length_nil, List.length_append, List.length_map, tmodN, tdivN]); and_intros <;> first | exact True.intro | omega | skip) ?_
      exact ih (j + 1) _ _ (by first | exact True.intro | omega) (by omega) (by exact agree_cons rfl (by rw [shr24, shr16, shr8, pack_bytes]; exact inj (packL_take l j (by omega)).symm) (agree_cons rfl (by first | with_reducible rfl | (refine congrArg (AV.int _) ?_; (try simp only [wrap_i64', wrap_u8, wrap_u16, wrap_u32, wrap_u64, wrap_i32, List.length_cons, List.length_nil, List.length_append, List.length_map, tmodN, tdivN]); omega) | rfl | skip) (agree_cons rfl (by first | with_reducible rfl | (refine congrArg (AV.int _) ?_; (try simp only [wrap_i64', wrap_u8, wrap_u16, wrap_u32, wrap_u64, wrap_i32, List.length_cons, List.length_nil, List.length_append, List.length_map, tmodN, tdivN]); omega) | rfl | skip) (agree_cons rfl (by first | with_reducible rfl | (refine congrArg (AV.int _) ?_; (try simp only [wrap_i64', wrap_u8, wrap_u16, wrap_u32, wrap_u64, wrap_i32, List.length_cons, List.length_nil, List.length_append, List.length_map, tmodN, tdivN]); omega) | rfl | skip) (trivial))))) (by rfl)
    · try simp only [decide_eq_true_eq, decide_eq_false_iff_not, notT, notF, beq_iff_eq, beq_eq_false_iff_ne, bne_iff_ne, bne_eq_false_iff_eq, tmodN, tdivN, Int.not_lt, Int.not_le] at g27
      refine Runs.exit rfl ?_
      refine Runs.seq ?_
      refine Runs.reg [] [] rfl (by (try simp only [wrap_i64', wrap_u8, wrap_u16, wrap_u32, wrap_u64, wrap_i32, List.length_cons, List.length_nil, List.length_append, List.length_map, tmodN, tdivN]); and_intros <;> first | exact True.intro | omega | skip) ?_
      exact Runs.retH Try.func17 rfl rfl (by rw [List.take_of_length_le (by omega)]) (by rfl)

theorem put64_ok (n : Nat) (hn : n < 18446744073709551616) : FnOK Try.prog 24 [.int .u64 n] [] (.bs (put64L n) false) [] := by
  refine FnOK.of_runs Try.func24 rfl (Nat.le_of_ble_eq_true rfl) ?_
  refine Runs.seq ?_
  refine Runs.reg [] [] rfl (by (try simp only [wrap_i64', wrap_u8, wrap_u16, wrap_u32, wrap_u64, wrap_i32, List.length_cons, List.length_nil, List.length_append, List.length_map, tmodN, tdivN]); and_intros <;> first | exact True.intro | omega | skip) ?_
  refine Runs.seq ?_
  refine Runs.reg [] [] rfl (by (try simp only [wrap_i64', wrap_u8, wrap_u16, wrap_u32, wrap_u64, wrap_i32, List.length_cons, List.length_nil, List.length_append, List.length_map, tmodN, tdivN]); and_intros <;> first | exact True.intro | omega | skip) ?_
  refine Runs.seq ?_
  refine Runs.seq ?_
  refine Runs.reg [] [0] rfl (by (try simp only [wrap_i64', wrap_u8, wrap_u16, wrap_u32, wrap_u64, wrap_i32, List.length_cons, List.length_nil, List.length_append, List.length_map, tmodN, tdivN]); and_intros <;> first | exact True.intro | omega | skip) ?_
  refine Runs.block ?_
  -- loop 0
  refine Runs.loopF (σ := Nat) (fun i => i ≤ 8) (fun i => [(0, .int .u64 n), (3, .hs 0 0 8 8), (7, .int .i64 8), (8, .int .i64 i)]) (fun i => [putBlk n i]) (fun i => 8 - i) (0) (by exact Nat.zero_le _) (by exact agree_cons rfl (by first | with_reducible rfl | (refine congrArg (AV.int _) ?_; (try simp only [wrap_i64', wrap_u8, wrap_u16, wrap_u32, wrap_u64, wrap_i32, List.length_cons, List.length_nil, List.length_append, List.length_map, tmodN, tdivN]); omega) | rfl | skip) (agree_cons rfl (by first | with_reducible rfl | (refine congrArg (AV.int _) ?_; (try simp only [wrap_i64', wrap_u8, wrap_u16, wrap_u32, wrap_u64, wrap_i32, List.length_cons, List.length_nil, List.length_append, List.length_map, tmodN, tdivN]); omega) | rfl | skip) (agree_cons rfl (by first | with_reducible rfl | (refine congrArg (AV.int _) ?_; (try simp only [wrap_i64', wrap_u8, wrap_u16, wrap_u32, wrap_u64, wrap_i32, List.length_cons, List.length_nil, List.length_append, List.length_map, tmodN, tdivN]); omega) | rfl | skip) (agree_cons rfl (by first | with_reducible rfl | (refine congrArg (AV.int _) ?_; (try simp only [wrap_i64', wrap_u8, wrap_u16, wrap_u32, wrap_u64, wrap_i32, List.length_cons, List.length_nil, List.length_append, List.length_map, tmodN, tdivN]); omega) | rfl | skip) (trivial))))) (by rfl) (fun i hi ih => ?_)
  have hle : i ≤ 8 := hi
  refine Runs.seq ?_
  refine Runs.reg [] [] rfl (by (try simp only [wrap_i64', wrap_u8, wrap_u16, wrap_u32, wrap_u64, wrap_i32, List.length_cons, List.length_nil, List.length_append, List.length_map, tmodN, tdivN]); and_intros <;> first | exact True.intro | omega | skip) ?_
  refine Runs.seq ?_
  refine Runs.condS rfl (fun g9 => ?_) (fun g9 => ?_)
  · try simp only [decide_eq_true_eq, decide_eq_false_iff_not, notT, notF, beq_iff_eq, beq_eq_false_iff_ne, bne_iff_ne, bne_eq_false_iff_eq, tmodN, tdivN, Int.not_lt, Int.not_le] at g9
    refine Runs.skip ?_
    refine Runs.seq ?_
    refine Runs.block ?_
    refine Runs.seq ?_
    refine Runs.reg [] [0] rfl (by (try simp only [wrap_i64', wrap_u8, wrap_u16, wrap_u32, wrap_u64, wrap_i32, List.length_cons, List.length_nil, List.length_append, List.length_map, tmodN, tdivN]); and_intros <;> first | exact True.intro | omega | skip) ?_
    refine Runs.reg [] [0, 1, 2, 3] rfl (by rw [i64_id (x := 8 * (i : Int)) (by omega) (by omega), i64_id (x := 56 - 8 * (i : Int)) (by omega) (by omega)]; simp only [putBlk, List.length_map, List.length_range, Int.toNat_natCast, AV.cells, List.length_cons, List.length_nil]; and_intros <;> first | exact True.intro | omega) ?_
    refine Runs.inBlock ?_
    refine Runs.reg [] [] rfl (by (try simp only [wrap_i64', wrap_u8, wrap_u16, wrap_u32, wrap_u64, wrap_i32, List.length_cons, List.length_nil, List.length_append, List.length_map, tmodN, tdivN]); and_intros <;> first | exact True.intro | omega | skip) ?_
    exact ih (i + 1) _ _ (by first | exact True.intro | omega) (by omega) (by exact agree_cons rfl (by first | with_reducible rfl | (refine congrArg (AV.int _) ?_; (try simp only [wrap_i64', wrap_u8, wrap_u16, wrap_u32, wrap_u64, wrap_i32, List.length_cons, List.length_nil, List.length_append, List.length_map, tmodN, tdivN]); omega) | rfl | skip) (agree_cons rfl (by first | with_reducible rfl | (refine congrArg (AV.int _) ?_; (try simp only [wrap_i64', wrap_u8, wrap_u16, wrap_u32, wrap_u64, wrap_i32, List.length_cons, List.length_nil, List.length_append, List.length_map, tmodN, tdivN]); omega) | rfl | skip) (agree_cons rfl (by first | with_reducible rfl | (refine congrArg (AV.int _) ?_; (try simp only [wrap_i64', wrap_u8, wrap_u16, wrap_u32, wrap_u64, wrap_i32, List.length_cons, List.length_nil, List.length_append, List.length_map, tmodN, tdivN]); omega) | rfl | skip) (agree_cons rfl (by first | with_reducible rfl | (refine congrArg (AV.int _) ?_; (try simp only [wrap_i64', wrap_u8, wrap_u16, wrap_u32, wrap_u64, wrap_i32, List.length_cons, List.length_nil, List.length_append, List.length_map, tmodN, tdivN]); omega) | rfl | skip) (trivial))))) (by rw [put_val n i (by omega)]; simp only [Int.toNat_natCast, Nat.zero_add, Nat.mul_one]; exact congrArg (fun x => [x]) (putBlk_set n i (by omega)))
  · try simp only [decide_eq_true_eq, decide_eq_false_iff_not, notT, notF, beq_iff_eq, beq_eq_false_iff_ne, bne_iff_ne, bne_eq_false_iff_eq, tmodN, tdivN, Int.not_lt, Int.not_le] at g9
    refine Runs.exit rfl ?_
    refine Runs.seq ?_
    refine Runs.reg [] [0] rfl (by (try simp only [wrap_i64', wrap_u8, wrap_u16, wrap_u32, wrap_u64, wrap_i32, List.length_cons, List.length_nil, List.length_append, List.length_map, tmodN, tdivN]); and_intros <;> first | exact True.intro | omega | skip) ?_
    exact Runs.freezeB 2 (put64L n) rfl rfl (Nat.zero_le _) (Nat.le_refl _) (by simp [putBlk]) (put_done n i hi (by omega)) (Runs.drop 0 (Nat.le_refl _) rfl (Runs.retH Try.func24 rfl rfl rfl rfl))


def L64 : List UInt8 := [65, 66, 67, 68, 69, 70, 71, 72, 73, 74, 75, 76, 77, 78, 79, 80, 81, 82, 83, 84, 85, 86, 87, 88, 89, 90, 97, 98, 99, 100, 101, 102, 103, 104, 105, 106, 107, 108, 109, 110, 111, 112, 113, 114, 115, 116, 117, 118, 119, 120, 121, 122, 48, 49, 50, 51, 52, 53, 54, 55, 56, 57, 43, 47]
def c64 (i : Nat) : UInt8 := L64.getD i 0
def u24 (x y z : UInt8) : Nat := x.toNat * 65536 + y.toNat * 256 + z.toNat
def b64L : List UInt8 → List UInt8
  | [] => []
  | [x] => [c64 (u24 x 0 0 / 262144), c64 (u24 x 0 0 / 4096 % 64), 61, 61]
  | [x, y] => [c64 (u24 x y 0 / 262144), c64 (u24 x y 0 / 4096 % 64), c64 (u24 x y 0 / 64 % 64), 61]
  | x :: y :: z :: r => c64 (u24 x y z / 262144) :: c64 (u24 x y z / 4096 % 64) :: c64 (u24 x y z / 64 % 64) :: c64 (u24 x y z % 64) :: b64L r
theorem u24_lt (x y z : UInt8) : u24 x y z < 16777216 := by
  have := x.toNat_lt; have := y.toNat_lt; have := z.toNat_lt; unfold u24; omega
theorem or_u (x y z : UInt8) : bitsE .or .u64 (bitsE .or .u64 (IntKind.u64.wrap (IntKind.u64.wrap (x.toNat : Int) * 2 ^ min (Int.toNat 16) IntKind.u64.bits)) (IntKind.u64.wrap (IntKind.u64.wrap (y.toNat : Int) * 2 ^ min (Int.toNat 8) IntKind.u64.bits))) (IntKind.u64.wrap (z.toNat : Int)) = ((u24 x y z : Nat) : Int) := by
  have hx := x.toNat_lt; have hy := y.toNat_lt; have hz := z.toNat_lt
  have e0 : ∀ c : UInt8, IntKind.u64.wrap (c.toNat : Int) = (c.toNat : Int) := fun c => by have := c.toNat_lt; rw [wrap_u64]; omega
  rw [e0, e0, e0]
  have e1 : IntKind.u64.wrap ((x.toNat : Int) * 2 ^ min (Int.toNat 16) IntKind.u64.bits) = ((65536 * x.toNat : Nat) : Int) := by
    show IntKind.u64.wrap ((x.toNat : Int) * 65536) = _
    rw [wrap_u64]; omega
  have e2 : IntKind.u64.wrap ((y.toNat : Int) * 2 ^ min (Int.toNat 8) IntKind.u64.bits) = ((256 * y.toNat : Nat) : Int) := by
    show IntKind.u64.wrap ((y.toNat : Int) * 256) = _
    rw [wrap_u64]; omega
  rw [e1, e2, (Go.Am.bits_nat .u64 (a := 65536 * x.toNat) (b := 256 * y.toNat) (Nat.lt_trans (show 65536 * x.toNat < 16777216 by omega) (by decide)) (Nat.lt_trans (show 256 * y.toNat < 65536 by omega) (by decide)) rfl).2.1]
  have h1 := Nat.two_pow_add_eq_or_of_lt (i := 16) (b := 256 * y.toNat) (show 256 * y.toNat < 2 ^ 16 by omega) x.toNat
  rw [show (2 : Nat) ^ 16 = 65536 from rfl] at h1
  rw [← h1]
  rw [(Go.Am.bits_nat .u64 (a := 65536 * x.toNat + 256 * y.toNat) (b := z.toNat) (Nat.lt_trans (show 65536 * x.toNat + 256 * y.toNat < 16777216 by omega) (by decide)) (Nat.lt_trans hz (by decide)) rfl).2.1]
  have h2 := Nat.two_pow_add_eq_or_of_lt (i := 8) (b := z.toNat) hz (256 * x.toNat + y.toNat)
  rw [show (2 : Nat) ^ 8 = 256 from rfl] at h2
  rw [show 65536 * x.toNat + 256 * y.toNat = 256 * (256 * x.toNat + y.toNat) by omega, ← h2]
  unfold u24; omega
theorem sh18 (n : Nat) : (n : Int).fdiv (2 ^ min (Int.toNat 18) IntKind.u64.bits) = ((n / 262144 : Nat) : Int) := by
  show (n : Int).fdiv 262144 = _
  rw [Int.fdiv_eq_ediv_of_nonneg _ (by decide)]; rfl
theorem sh12 (n : Nat) : (n : Int).fdiv (2 ^ min (Int.toNat 12) IntKind.u64.bits) = ((n / 4096 : Nat) : Int) := by
  show (n : Int).fdiv 4096 = _
  rw [Int.fdiv_eq_ediv_of_nonneg _ (by decide)]; rfl
theorem sh6 (n : Nat) : (n : Int).fdiv (2 ^ min (Int.toNat 6) IntKind.u64.bits) = ((n / 64 : Nat) : Int) := by
  show (n : Int).fdiv 64 = _
  rw [Int.fdiv_eq_ediv_of_nonneg _ (by decide)]; rfl
theorem and63 {m : Nat} (h : m < 16777216) : bitsE .and .u64 (m : Int) 63 = ((m % 64 : Nat) : Int) := by
  have := (Go.Am.bits_nat .u64 (a := m) (b := 63) (Nat.lt_trans h (by decide)) (by decide) rfl).1
  rw [show ((63 : Nat) : Int) = 63 from rfl] at this
  rw [this, show m &&& 63 = m % 64 from Nat.and_two_pow_sub_one_eq_mod m 6]
theorem byteD (c : UInt8) : toB (c.toNat : Int) = c := by simp [toB]
theorem cp_le (n : Nat) : 0 + Nat.min n 3 * 1 ≤ 3 := by
  have h : Nat.min n 3 ≤ 3 := Nat.min_le_right n 3
  generalize Nat.min n 3 = m at h
  omega
theorem d3 (x y z : UInt8) (r : List UInt8) : List.drop (3 : Int).toNat (List.take (((x :: y :: z :: r).length : Nat) : Int).toNat (x :: y :: z :: r)) = r := by
  rw [Int.toNat_natCast, List.take_length]; rfl
theorem binj {a b : List UInt8} {o : Bool} (h : a = b) : AV.bs a o = AV.bs b o := by rw [h]
theorem cp3 (x y z : UInt8) (r : List UInt8) : putCells [.int .u8 0, .int .u8 0, .int .u8 0] 0 ((cpy (Nat.min (r.length + 1 + 1 + 1) 3) (byteEl (x :: y :: z :: r))).map un1) = [.int .u8 x.toNat, .int .u8 y.toNat, .int .u8 z.toNat] := by
  rw [show Nat.min (r.length + 1 + 1 + 1) 3 = 3 from Nat.min_eq_right (by omega)]; rfl
theorem mn3 (n : Nat) : ((Nat.min (n + 1 + 1 + 1) 3 : Nat) : Int) = 3 := by rw [show Nat.min (n + 1 + 1 + 1) 3 = 3 from Nat.min_eq_right (by omega)]; rfl
structure B64I (b rest out : List UInt8) : Prop where
  eq : out ++ b64L rest = b64L b
  le : out.length + 2 * rest.length ≤ 2 * b.length + 4
theorem b64_len : ∀ b : List UInt8, (b64L b).length = (b.length + 2) / 3 * 4
  | [] => rfl
  | [x] => by simp [b64L]
  | [x, y] => by simp [b64L]
  | x :: y :: z :: r => by simp [b64L, b64_len r]; omega

theorem base64_ok (b : List UInt8) (hb : b.length ≤ 16777216) : FnOK Try.prog 28 [.bs b false] [] (.str (b64L b)) [] := by
  refine FnOK.of_runs Try.func28 rfl (Nat.le_of_ble_eq_true rfl) ?_
  refine Runs.seq ?_
  refine Runs.reg [] [] rfl (by (try simp only [wrap_i64', wrap_u8, wrap_u16, wrap_u32, wrap_u64, wrap_i32, List.length_cons, List.length_nil, List.length_append, List.length_map, tmodN, tdivN]); and_intros <;> first | exact True.intro | omega | skip) ?_
  refine Runs.seq ?_
  refine Runs.reg [] [0] rfl (by rw [i64_id (x := (b.length : Int) + 2) (by omega) (by omega), show ((b.length : Int) + 2) = ((b.length + 2 : Nat) : Int) by omega, tdivN, i64_id (x := ((b.length + 2 : Nat) : Int) / 3) (by omega) (by omega), i64_id (by omega) (by omega)]; and_intros <;> first | exact True.intro | omega) ?_
  refine Runs.seq ?_
  refine Runs.block ?_
  -- loop 0
  refine Runs.loopF (σ := List UInt8 × List UInt8) (fun p => p.2 ++ b64L p.1 = b64L b) (fun p => [(0, .bs p.1 false), (3, .bs p.2 true)]) (fun _ => []) (fun p => p.1.length) ((b, [])) (by rfl) (by exact agree_cons rfl (by first | with_reducible rfl | (refine congrArg (AV.int _) ?_; (try simp only [wrap_i64', wrap_u8, wrap_u16, wrap_u32, wrap_u64, wrap_i32, List.length_cons, List.length_nil, List.length_append, List.length_map, tmodN, tdivN]); omega) | rfl | skip) (agree_cons rfl (by first | with_reducible rfl | (refine congrArg (AV.int _) ?_; (try simp only [wrap_i64', wrap_u8, wrap_u16, wrap_u32, wrap_u64, wrap_i32, List.length_cons, List.length_nil, List.length_append, List.length_map, tmodN, tdivN]); omega) | rfl | skip) (trivial))) (by rfl) (fun ⟨rest, out⟩ hi ih => ?_)
  replace hi : out ++ b64L rest = b64L b := hi; have hln := congrArg List.length hi; simp only [List.length_append, b64_len] at hln
  refine Runs.seq ?_
  refine Runs.seq ?_
  refine Runs.reg [] [0] rfl (by (try simp only [wrap_i64', wrap_u8, wrap_u16, wrap_u32, wrap_u64, wrap_i32, List.length_cons, List.length_nil, List.length_append, List.length_map, tmodN, tdivN]); and_intros <;> first | exact True.intro | omega | skip) ?_
  refine Runs.condS rfl (fun g17 => ?_) (fun g17 => ?_)
  · try simp only [decide_eq_true_eq, decide_eq_false_iff_not, notT, notF, beq_iff_eq, beq_eq_false_iff_ne, bne_iff_ne, bne_eq_false_iff_eq, tmodN, tdivN, Int.not_lt, Int.not_le] at g17
    refine Runs.skip ?_
    refine Runs.block ?_
    refine Runs.seq ?_
    refine Runs.reg [] [] rfl (by (try simp only [wrap_i64', wrap_u8, wrap_u16, wrap_u32, wrap_u64, wrap_i32, List.length_cons, List.length_nil, List.length_append, List.length_map, tmodN, tdivN]); and_intros <;> first | exact True.intro | omega | skip) ?_
    refine Runs.seq ?_
    rcases rest with _ | ⟨x, _ | ⟨y, _ | ⟨z, r⟩⟩⟩
    · (exfalso; simp at g17)
    · skip
      refine Runs.reg [] [1] rfl (by simp only [List.length_cons, List.length_nil, AV.cells, byteEl, isCell, List.all_cons, List.all_nil, Bool.and_self, implies_true]; and_intros <;> first | exact True.intro | omega | decide | exact cp_le _) ?_
      refine Runs.heap (H2 := [[.int .u8 x.toNat, .int .u8 (0 : UInt8).toNat, .int .u8 (0 : UInt8).toNat]]) (by rfl) ?_
      refine Runs.frame [(0, .bs ([x]) false), (3, .bs out true), (4, .ptr 0 0), (5, .int .i64 1)] (by exact agree_cons rfl (by rfl) (agree_cons rfl (by rfl) (agree_cons rfl (by rfl) (agree_cons rfl (by rfl) trivial)))) ?_
      refine Runs.seq ?_
      refine Runs.reg [] [0, 1] rfl (by (try simp only [wrap_i64', wrap_u8, wrap_u16, wrap_u32, wrap_u64, wrap_i32, List.length_cons, List.length_nil, List.length_append, List.length_map, tmodN, tdivN]); and_intros <;> first | exact True.intro | omega | skip) ?_
      refine Runs.seq ?_
      refine Runs.reg [] [] rfl (by (try simp only [wrap_i64', wrap_u8, wrap_u16, wrap_u32, wrap_u64, wrap_i32, List.length_cons, List.length_nil, List.length_append, List.length_map, tmodN, tdivN]); and_intros <;> first | exact True.intro | omega | skip) ?_
      refine Runs.frame [(0, .bs [] false), (3, .bs out true), (5, .int .i64 1), (6, .int .u64 (u24 x 0 0 : Nat))] (by exact agree_cons rfl (by rfl) (agree_cons rfl (by rfl) (agree_cons rfl (by rfl) (agree_cons rfl (by exact congrArg (AV.int _) (or_u _ _ _)) trivial)))) ?_
      have hu : u24 x 0 0 < 16777216 := u24_lt _ _ _
      refine Runs.seq ?_
      refine Runs.regD [] [0, 3, 7, 11] rfl rfl rfl (by rw [sh18, sh12, sh6, and63 (by omega), and63 (by omega), and63 (by omega)]; simp only [List.length_cons, List.length_nil]; and_intros <;> first | exact True.intro | omega | decide | exact Nat.le_refl _) ?_
      refine Runs.heap (H2 := [[.int .u8 x.toNat, .int .u8 (0 : UInt8).toNat, .int .u8 (0 : UInt8).toNat]] ++ [[.int .u8 (c64 (u24 x 0 0 / 262144)).toNat, .int .u8 (c64 (u24 x 0 0 / 4096 % 64)).toNat, .int .u8 (c64 (u24 x 0 0 / 64 % 64)).toNat, .int .u8 (c64 (u24 x 0 0 % 64)).toNat]]) (by rw [sh18, sh12, sh6, and63 (by omega), and63 (by omega), and63 (by omega)]; rfl) ?_
      refine Runs.frame [(0, .bs [] false), (3, .bs out true), (5, .int .i64 1), (7, .ptr 1 0)] (by exact agree_cons rfl (by rfl) (agree_cons rfl (by rfl) (agree_cons rfl (by rfl) (agree_cons rfl (by rfl) trivial)))) ?_
      refine Runs.seq ?_
      refine Runs.seq ?_
      refine Runs.reg [] [0] rfl (by (try simp only [wrap_i64', wrap_u8, wrap_u16, wrap_u32, wrap_u64, wrap_i32, List.length_cons, List.length_nil, List.length_append, List.length_map, tmodN, tdivN]); and_intros <;> first | exact True.intro | omega | skip) ?_
      refine Runs.block ?_
      refine Runs.loop ?_
      refine Runs.inLoop ?_
      refine Runs.seq ?_
      refine Runs.seq ?_
      refine Runs.reg [] [0] rfl (by (try simp only [wrap_i64', wrap_u8, wrap_u16, wrap_u32, wrap_u64, wrap_i32, List.length_cons, List.length_nil, List.length_append, List.length_map, tmodN, tdivN]); and_intros <;> first | exact True.intro | omega | skip) ?_
      refine Runs.condT rfl ?_
      refine Runs.skip ?_
      refine Runs.seq ?_
      refine Runs.block ?_
      refine Runs.reg [] [0] rfl (by simp only [List.length_set, List.length_cons, List.length_nil]; and_intros <;> first | exact True.intro | decide) ?_
      refine Runs.inBlock ?_
      refine Runs.reg [] [] rfl (by (try simp only [wrap_i64', wrap_u8, wrap_u16, wrap_u32, wrap_u64, wrap_i32, List.length_cons, List.length_nil, List.length_append, List.length_map, tmodN, tdivN]); and_intros <;> first | exact True.intro | omega | skip) ?_
      refine Runs.inLoop ?_
      refine Runs.seq ?_
      refine Runs.seq ?_
      refine Runs.reg [] [0] rfl (by (try simp only [wrap_i64', wrap_u8, wrap_u16, wrap_u32, wrap_u64, wrap_i32, List.length_cons, List.length_nil, List.length_append, List.length_map, tmodN, tdivN]); and_intros <;> first | exact True.intro | omega | skip) ?_
      refine Runs.condT rfl ?_
      refine Runs.skip ?_
      refine Runs.seq ?_
      refine Runs.block ?_
      refine Runs.reg [] [0] rfl (by simp only [List.length_set, List.length_cons, List.length_nil]; and_intros <;> first | exact True.intro | decide) ?_
      refine Runs.inBlock ?_
      refine Runs.reg [] [] rfl (by (try simp only [wrap_i64', wrap_u8, wrap_u16, wrap_u32, wrap_u64, wrap_i32, List.length_cons, List.length_nil, List.length_append, List.length_map, tmodN, tdivN]); and_intros <;> first | exact True.intro | omega | skip) ?_
      refine Runs.inLoop ?_
      refine Runs.seq ?_
      refine Runs.seq ?_
      refine Runs.reg [] [0] rfl (by (try simp only [wrap_i64', wrap_u8, wrap_u16, wrap_u32, wrap_u64, wrap_i32, List.length_cons, List.length_nil, List.length_append, List.length_map, tmodN, tdivN]); and_intros <;> first | exact True.intro | omega | skip) ?_
      refine Runs.condF rfl ?_
      refine Runs.exit rfl ?_
      refine Runs.reg [] [] rfl (by simp only [List.length_cons, List.length_nil] at hln; and_intros <;> first | exact True.intro | omega | decide | (intro z hz; simp only [List.mem_cons, List.not_mem_nil, or_false] at hz; rcases hz with rfl | rfl | rfl | rfl <;> first | exact u8b _ | decide)) ?_
      refine Runs.inBlock ?_
      refine Runs.drop 0 (Nat.le_refl _) rfl ?_
      exact ih ([], out ++ [c64 (u24 x 0 0 / 262144), c64 (u24 x 0 0 / 4096 % 64), 61, 61]) _ _ (by rw [← hi]; simp [b64L]) (by simp only [List.length_cons, List.length_nil]; omega) (by exact agree_cons rfl (by rfl) (agree_cons rfl (by exact binj (congrArg (out ++ ·) (by simp only [List.map_cons, List.map_nil, byteD] <;> rfl))) trivial)) (by rfl)
    · skip
      refine Runs.reg [] [1] rfl (by simp only [List.length_cons, List.length_nil, AV.cells, byteEl, isCell, List.all_cons, List.all_nil, Bool.and_self, implies_true]; and_intros <;> first | exact True.intro | omega | decide | exact cp_le _) ?_
      refine Runs.heap (H2 := [[.int .u8 x.toNat, .int .u8 y.toNat, .int .u8 (0 : UInt8).toNat]]) (by rfl) ?_
      refine Runs.frame [(0, .bs ([x, y]) false), (3, .bs out true), (4, .ptr 0 0), (5, .int .i64 2)] (by exact agree_cons rfl (by rfl) (agree_cons rfl (by rfl) (agree_cons rfl (by rfl) (agree_cons rfl (by rfl) trivial)))) ?_
      refine Runs.seq ?_
      refine Runs.reg [] [0, 1] rfl (by (try simp only [wrap_i64', wrap_u8, wrap_u16, wrap_u32, wrap_u64, wrap_i32, List.length_cons, List.length_nil, List.length_append, List.length_map, tmodN, tdivN]); and_intros <;> first | exact True.intro | omega | skip) ?_
      refine Runs.seq ?_
      refine Runs.reg [] [] rfl (by (try simp only [wrap_i64', wrap_u8, wrap_u16, wrap_u32, wrap_u64, wrap_i32, List.length_cons, List.length_nil, List.length_append, List.length_map, tmodN, tdivN]); and_intros <;> first | exact True.intro | omega | skip) ?_
      refine Runs.frame [(0, .bs [] false), (3, .bs out true), (5, .int .i64 2), (6, .int .u64 (u24 x y 0 : Nat))] (by exact agree_cons rfl (by rfl) (agree_cons rfl (by rfl) (agree_cons rfl (by rfl) (agree_cons rfl (by exact congrArg (AV.int _) (or_u _ _ _)) trivial)))) ?_
      have hu : u24 x y 0 < 16777216 := u24_lt _ _ _
      refine Runs.seq ?_
      refine Runs.regD [] [0, 3, 7, 11] rfl rfl rfl (by rw [sh18, sh12, sh6, and63 (by omega), and63 (by omega), and63 (by omega)]; simp only [List.length_cons, List.length_nil]; and_intros <;> first | exact True.intro | omega | decide | exact Nat.le_refl _) ?_
      refine Runs.heap (H2 := [[.int .u8 x.toNat, .int .u8 y.toNat, .int .u8 (0 : UInt8).toNat]] ++ [[.int .u8 (c64 (u24 x y 0 / 262144)).toNat, .int .u8 (c64 (u24 x y 0 / 4096 % 64)).toNat, .int .u8 (c64 (u24 x y 0 / 64 % 64)).toNat, .int .u8 (c64 (u24 x y 0 % 64)).toNat]]) (by rw [sh18, sh12, sh6, and63 (by omega), and63 (by omega), and63 (by omega)]; rfl) ?_
      refine Runs.frame [(0, .bs [] false), (3, .bs out true), (5, .int .i64 2), (7, .ptr 1 0)] (by exact agree_cons rfl (by rfl) (agree_cons rfl (by rfl) (agree_cons rfl (by rfl) (agree_cons rfl (by rfl) trivial)))) ?_
      refine Runs.seq ?_
      refine Runs.seq ?_
      refine Runs.reg [] [0] rfl (by (try simp only [wrap_i64', wrap_u8, wrap_u16, wrap_u32, wrap_u64, wrap_i32, List.length_cons, List.length_nil, List.length_append, List.length_map, tmodN, tdivN]); and_intros <;> first | exact True.intro | omega | skip) ?_
      refine Runs.block ?_
      refine Runs.loop ?_
      refine Runs.inLoop ?_
      refine Runs.seq ?_
      refine Runs.seq ?_
      refine Runs.reg [] [0] rfl (by (try simp only [wrap_i64', wrap_u8, wrap_u16, wrap_u32, wrap_u64, wrap_i32, List.length_cons, List.length_nil, List.length_append, List.length_map, tmodN, tdivN]); and_intros <;> first | exact True.intro | omega | skip) ?_
      refine Runs.condT rfl ?_
      refine Runs.skip ?_
      refine Runs.seq ?_
      refine Runs.block ?_
      refine Runs.reg [] [0] rfl (by simp only [List.length_set, List.length_cons, List.length_nil]; and_intros <;> first | exact True.intro | decide) ?_
      refine Runs.inBlock ?_
      refine Runs.reg [] [] rfl (by (try simp only [wrap_i64', wrap_u8, wrap_u16, wrap_u32, wrap_u64, wrap_i32, List.length_cons, List.length_nil, List.length_append, List.length_map, tmodN, tdivN]); and_intros <;> first | exact True.intro | omega | skip) ?_
      refine Runs.inLoop ?_
      refine Runs.seq ?_
      refine Runs.seq ?_
      refine Runs.reg [] [0] rfl (by (try simp only [wrap_i64', wrap_u8, wrap_u16, wrap_u32, wrap_u64, wrap_i32, List.length_cons, List.length_nil, List.length_append, List.length_map, tmodN, tdivN]); and_intros <;> first | exact True.intro | omega | skip) ?_
      refine Runs.condF rfl ?_
      refine Runs.exit rfl ?_
      refine Runs.reg [] [] rfl (by simp only [List.length_cons, List.length_nil] at hln; and_intros <;> first | exact True.intro | omega | decide | (intro z hz; simp only [List.mem_cons, List.not_mem_nil, or_false] at hz; rcases hz with rfl | rfl | rfl | rfl <;> first | exact u8b _ | decide)) ?_
      refine Runs.inBlock ?_
      refine Runs.drop 0 (Nat.le_refl _) rfl ?_
      exact ih ([], out ++ [c64 (u24 x y 0 / 262144), c64 (u24 x y 0 / 4096 % 64), c64 (u24 x y 0 / 64 % 64), 61]) _ _ (by rw [← hi]; simp [b64L]) (by simp only [List.length_cons, List.length_nil]; omega) (by exact agree_cons rfl (by rfl) (agree_cons rfl (by exact binj (congrArg (out ++ ·) (by simp only [List.map_cons, List.map_nil, byteD] <;> rfl))) trivial)) (by rfl)
    · skip
      refine Runs.reg [] [1] rfl (by simp only [List.length_cons, List.length_nil, AV.cells, byteEl, isCell, List.all_cons, List.all_nil, Bool.and_self, implies_true]; and_intros <;> first | exact True.intro | omega | decide | exact cp_le _) ?_
      refine Runs.heap (H2 := [[.int .u8 x.toNat, .int .u8 y.toNat, .int .u8 z.toNat]]) (by exact congrArg (fun x => [x]) (cp3 x y z r)) ?_
      refine Runs.frame [(0, .bs (x :: y :: z :: r) false), (3, .bs out true), (4, .ptr 0 0), (5, .int .i64 3)] (by exact agree_cons rfl (by rfl) (agree_cons rfl (by rfl) (agree_cons rfl (by rfl) (agree_cons rfl (by exact congrArg (AV.int _) (mn3 r.length)) trivial)))) ?_
      refine Runs.seq ?_
      refine Runs.reg [] [0, 1] rfl (by (try simp only [wrap_i64', wrap_u8, wrap_u16, wrap_u32, wrap_u64, wrap_i32, List.length_cons, List.length_nil, List.length_append, List.length_map, tmodN, tdivN]); and_intros <;> first | exact True.intro | omega | skip) ?_
      refine Runs.seq ?_
      refine Runs.reg [] [] rfl (by (try simp only [wrap_i64', wrap_u8, wrap_u16, wrap_u32, wrap_u64, wrap_i32, List.length_cons, List.length_nil, List.length_append, List.length_map, tmodN, tdivN]); and_intros <;> first | exact True.intro | omega | skip) ?_
      refine Runs.frame [(0, .bs r false), (3, .bs out true), (5, .int .i64 3), (6, .int .u64 (u24 x y z : Nat))] (by exact agree_cons rfl (by exact binj (d3 x y z r)) (agree_cons rfl (by rfl) (agree_cons rfl (by rfl) (agree_cons rfl (by exact congrArg (AV.int _) (or_u _ _ _)) trivial)))) ?_
      have hu : u24 x y z < 16777216 := u24_lt _ _ _
      refine Runs.seq ?_
      refine Runs.regD [] [0, 3, 7, 11] rfl rfl rfl (by rw [sh18, sh12, sh6, and63 (by omega), and63 (by omega), and63 (by omega)]; simp only [List.length_cons, List.length_nil]; and_intros <;> first | exact True.intro | omega | decide | exact Nat.le_refl _) ?_
      refine Runs.heap (H2 := [[.int .u8 x.toNat, .int .u8 y.toNat, .int .u8 z.toNat]] ++ [[.int .u8 (c64 (u24 x y z / 262144)).toNat, .int .u8 (c64 (u24 x y z / 4096 % 64)).toNat, .int .u8 (c64 (u24 x y z / 64 % 64)).toNat, .int .u8 (c64 (u24 x y z % 64)).toNat]]) (by rw [sh18, sh12, sh6, and63 (by omega), and63 (by omega), and63 (by omega)]; rfl) ?_
      refine Runs.frame [(0, .bs r false), (3, .bs out true), (5, .int .i64 3), (7, .ptr 1 0)] (by exact agree_cons rfl (by rfl) (agree_cons rfl (by rfl) (agree_cons rfl (by rfl) (agree_cons rfl (by rfl) trivial)))) ?_
      refine Runs.seq ?_
      refine Runs.seq ?_
      refine Runs.reg [] [0] rfl (by (try simp only [wrap_i64', wrap_u8, wrap_u16, wrap_u32, wrap_u64, wrap_i32, List.length_cons, List.length_nil, List.length_append, List.length_map, tmodN, tdivN]); and_intros <;> first | exact True.intro | omega | skip) ?_
      refine Runs.block ?_
      refine Runs.loop ?_
      refine Runs.inLoop ?_
      refine Runs.seq ?_
      refine Runs.seq ?_
      refine Runs.reg [] [0] rfl (by (try simp only [wrap_i64', wrap_u8, wrap_u16, wrap_u32, wrap_u64, wrap_i32, List.length_cons, List.length_nil, List.length_append, List.length_map, tmodN, tdivN]); and_intros <;> first | exact True.intro | omega | skip) ?_
      refine Runs.condF rfl ?_
      refine Runs.exit rfl ?_
      refine Runs.reg [] [] rfl (by simp only [List.length_cons, List.length_nil] at hln; and_intros <;> first | exact True.intro | omega | decide | (intro z hz; simp only [List.mem_cons, List.not_mem_nil, or_false] at hz; rcases hz with rfl | rfl | rfl | rfl <;> first | exact u8b _ | decide)) ?_
      refine Runs.inBlock ?_
      refine Runs.drop 0 (Nat.le_refl _) rfl ?_
      exact ih (r, out ++ [c64 (u24 x y z / 262144), c64 (u24 x y z / 4096 % 64), c64 (u24 x y z / 64 % 64), c64 (u24 x y z % 64)]) _ _ (by rw [← hi]; simp [b64L]) (by simp only [List.length_cons, List.length_nil]; omega) (by exact agree_cons rfl (by rfl) (agree_cons rfl (by exact binj (congrArg (out ++ ·) (by simp only [List.map_cons, List.map_nil, byteD] <;> rfl))) trivial)) (by rfl)
  · try simp only [decide_eq_true_eq, decide_eq_false_iff_not, notT, notF, beq_iff_eq, beq_eq_false_iff_ne, bne_iff_ne, bne_eq_false_iff_eq, tmodN, tdivN, Int.not_lt, Int.not_le] at g17
    refine Runs.exit rfl ?_
    refine Runs.seq ?_
    refine Runs.reg [] [0] rfl (by (try simp only [wrap_i64', wrap_u8, wrap_u16, wrap_u32, wrap_u64, wrap_i32, List.length_cons, List.length_nil, List.length_append, List.length_map, tmodN, tdivN]); and_intros <;> first | exact True.intro | omega | skip) ?_
    exact Runs.retH Try.func28 rfl rfl (by have := List.eq_nil_of_length_eq_zero (show rest.length = 0 by omega); subst this; simpa [b64L] using hi) (by rfl)


theorem el2 {a b : Nat → AV} (h0 : a 0 = b 0) (h1 : a 1 = b 1) (i : Nat) (h : i < 2) : a i = b i := by
  rcases (show i = 0 ∨ i = 1 by omega) with rfl | rfl
  · exact h0
  · exact h1

theorem awake1_ok : FnOK Try.prog 16 [] [] (.bool true) [] := by
  refine FnOK.of_runs Try.func16 rfl (Nat.le_of_ble_eq_true rfl) ?_
  refine Runs.seq ?_
  refine Runs.reg [] [] rfl (by (try simp only [wrap_i64', wrap_u8, wrap_u16, wrap_u32, wrap_u64, wrap_i32, List.length_cons, List.length_nil, List.length_append, List.length_map, tmodN, tdivN]); and_intros <;> first | exact True.intro | omega | skip) ?_
  refine Runs.seq ?_
  refine Runs.reg [(0, { res := .tup [.bs [10, 255] false, .bool true] })] [] rfl (by and_intros <;> first | exact True.intro | exact unhex_ok [48, 97, 102, 102] (by decide)) ?_
  refine Runs.seq ?_
  refine Runs.reg [(0, { res := .tup [.int .i64 42, .bool true] })] [] rfl (by and_intros <;> first | exact True.intro | exact int_ok [52, 50] (by decide)) ?_
  refine Runs.seq ?_
  refine Runs.region ?_
  refine Runs.restTo 2 [(22, { res := .str (b64L [77, 97, 110]) }), (27, { res := .bs [0, 0, 0, 2, 97, 98, 0, 0, 0, 0] false }), (32, { res := .bs [0, 0, 0, 0, 0, 0, 0, 1] false })] [0, 2, 5, 10, 16] rfl (by and_intros <;> first | exact True.intro | decide | exact base64_ok [77, 97, 110] (by decide) | exact put64_ok 1 (by decide) | exact (pack_ok [[97, 98], []] false (by decide) (by decide)).arg ⟨⟨Imp.sl (m := 2) (by intro i hi; exact el2 (by rfl) (by rfl) i hi), rfl, rfl⟩, True.intro⟩) ?_
  refine Runs.splitS 14 rfl (fun g14 => ?_) (fun g14 => ?_)
  · try simp only [decide_eq_true_eq, decide_eq_false_iff_not, notT, notF, beq_iff_eq, beq_eq_false_iff_ne, bne_iff_ne, bne_eq_false_iff_eq, tmodN, tdivN, Int.not_lt, Int.not_le] at g14
    refine Runs.restTo 3 [(22, { res := .str (b64L [77, 97, 110]) }), (27, { res := .bs [0, 0, 0, 2, 97, 98, 0, 0, 0, 0] false }), (32, { res := .bs [0, 0, 0, 0, 0, 0, 0, 1] false })] [0, 2, 5, 10, 16] rfl (by and_intros <;> first | exact True.intro | decide | exact base64_ok [77, 97, 110] (by decide) | exact put64_ok 1 (by decide) | exact (pack_ok [[97, 98], []] false (by decide) (by decide)).arg ⟨⟨Imp.sl (m := 2) (by intro i hi; exact el2 (by rfl) (by rfl) i hi), rfl, rfl⟩, True.intro⟩) ?_
    refine Runs.splitS 17 rfl (fun g17 => ?_) (fun g17 => ?_)
    · try simp only [decide_eq_true_eq, decide_eq_false_iff_not, notT, notF, beq_iff_eq, beq_eq_false_iff_ne, bne_iff_ne, bne_eq_false_iff_eq, tmodN, tdivN, Int.not_lt, Int.not_le] at g17
      refine Runs.restTo 5 [(22, { res := .str (b64L [77, 97, 110]) }), (27, { res := .bs [0, 0, 0, 2, 97, 98, 0, 0, 0, 0] false }), (32, { res := .bs [0, 0, 0, 0, 0, 0, 0, 1] false })] [0, 2, 5, 10, 16] rfl (by and_intros <;> first | exact True.intro | decide | exact base64_ok [77, 97, 110] (by decide) | exact put64_ok 1 (by decide) | exact (pack_ok [[97, 98], []] false (by decide) (by decide)).arg ⟨⟨Imp.sl (m := 2) (by intro i hi; exact el2 (by rfl) (by rfl) i hi), rfl, rfl⟩, True.intro⟩) ?_
      refine Runs.splitS 22 rfl (fun g22 => ?_) (fun g22 => ?_)
      · try simp only [decide_eq_true_eq, decide_eq_false_iff_not, notT, notF, beq_iff_eq, beq_eq_false_iff_ne, bne_iff_ne, bne_eq_false_iff_eq, tmodN, tdivN, Int.not_lt, Int.not_le] at g22
        refine Runs.restTo 6 [(22, { res := .str (b64L [77, 97, 110]) }), (27, { res := .bs [0, 0, 0, 2, 97, 98, 0, 0, 0, 0] false }), (32, { res := .bs [0, 0, 0, 0, 0, 0, 0, 1] false })] [0, 2, 5, 10, 16] rfl (by and_intros <;> first | exact True.intro | decide | exact base64_ok [77, 97, 110] (by decide) | exact put64_ok 1 (by decide) | exact (pack_ok [[97, 98], []] false (by decide) (by decide)).arg ⟨⟨Imp.sl (m := 2) (by intro i hi; exact el2 (by rfl) (by rfl) i hi), rfl, rfl⟩, True.intro⟩) ?_
        refine Runs.splitS 28 rfl (fun g28 => ?_) (fun g28 => ?_)
        · try simp only [decide_eq_true_eq, decide_eq_false_iff_not, notT, notF, beq_iff_eq, beq_eq_false_iff_ne, bne_iff_ne, bne_eq_false_iff_eq, tmodN, tdivN, Int.not_lt, Int.not_le] at g28
          refine Runs.restTo 4 [(22, { res := .str (b64L [77, 97, 110]) }), (27, { res := .bs [0, 0, 0, 2, 97, 98, 0, 0, 0, 0] false }), (32, { res := .bs [0, 0, 0, 0, 0, 0, 0, 1] false })] [0, 2, 5, 10, 16] rfl (by and_intros <;> first | exact True.intro | decide | exact base64_ok [77, 97, 110] (by decide) | exact put64_ok 1 (by decide) | exact (pack_ok [[97, 98], []] false (by decide) (by decide)).arg ⟨⟨Imp.sl (m := 2) (by intro i hi; exact el2 (by rfl) (by rfl) i hi), rfl, rfl⟩, True.intro⟩) ?_
          refine Runs.splitS 32 rfl (fun g32 => ?_) (fun g32 => ?_)
          · try simp only [decide_eq_true_eq, decide_eq_false_iff_not, notT, notF, beq_iff_eq, beq_eq_false_iff_ne, bne_iff_ne, bne_eq_false_iff_eq, tmodN, tdivN, Int.not_lt, Int.not_le] at g32
            refine Runs.litConv rfl rfl rfl rfl rfl rfl rfl rfl rfl rfl rfl rfl rfl rfl (by simp) ?_
            refine Runs.restTo 4 [(22, { res := .str (b64L [77, 97, 110]) }), (27, { res := .bs [0, 0, 0, 2, 97, 98, 0, 0, 0, 0] false }), (32, { res := .bs [0, 0, 0, 0, 0, 0, 0, 1] false })] [0, 2, 5, 10, 16] rfl (by and_intros <;> first | exact True.intro | decide | exact base64_ok [77, 97, 110] (by decide) | exact put64_ok 1 (by decide) | exact (pack_ok [[97, 98], []] false (by decide) (by decide)).arg ⟨⟨Imp.sl (m := 2) (by intro i hi; exact el2 (by rfl) (by rfl) i hi), rfl, rfl⟩, True.intro⟩) ?_
            refine Runs.splitS 38 rfl (fun g38 => ?_) (fun g38 => ?_)
            · try simp only [decide_eq_true_eq, decide_eq_false_iff_not, notT, notF, beq_iff_eq, beq_eq_false_iff_ne, bne_iff_ne, bne_eq_false_iff_eq, tmodN, tdivN, Int.not_lt, Int.not_le] at g38
              refine Runs.restTo 6 [(22, { res := .str (b64L [77, 97, 110]) }), (27, { res := .bs [0, 0, 0, 2, 97, 98, 0, 0, 0, 0] false }), (32, { res := .bs [0, 0, 0, 0, 0, 0, 0, 1] false })] [0, 2, 5, 10, 16] rfl (by and_intros <;> first | exact True.intro | decide | exact base64_ok [77, 97, 110] (by decide) | exact put64_ok 1 (by decide) | exact (pack_ok [[97, 98], []] false (by decide) (by decide)).arg ⟨⟨Imp.sl (m := 2) (by intro i hi; exact el2 (by rfl) (by rfl) i hi), rfl, rfl⟩, True.intro⟩) ?_
              refine Runs.splitS 44 rfl (fun g44 => ?_) (fun g44 => ?_)
              · try simp only [decide_eq_true_eq, decide_eq_false_iff_not, notT, notF, beq_iff_eq, beq_eq_false_iff_ne, bne_iff_ne, bne_eq_false_iff_eq, tmodN, tdivN, Int.not_lt, Int.not_le] at g44
                refine Runs.rest [(22, { res := .str (b64L [77, 97, 110]) }), (27, { res := .bs [0, 0, 0, 2, 97, 98, 0, 0, 0, 0] false }), (32, { res := .bs [0, 0, 0, 0, 0, 0, 0, 1] false })] [0, 2, 5, 10, 16] rfl (by and_intros <;> first | exact True.intro | decide | exact base64_ok [77, 97, 110] (by decide) | exact put64_ok 1 (by decide) | exact (pack_ok [[97, 98], []] false (by decide) (by decide)).arg ⟨⟨Imp.sl (m := 2) (by intro i hi; exact el2 (by rfl) (by rfl) i hi), rfl, rfl⟩, True.intro⟩) ?_
                exact Runs.retH Try.func16 rfl rfl (by rfl) (by rfl)
              · try simp only [decide_eq_true_eq, decide_eq_false_iff_not, notT, notF, beq_iff_eq, beq_eq_false_iff_ne, bne_iff_ne, bne_eq_false_iff_eq, tmodN, tdivN, Int.not_lt, Int.not_le] at g44
                exact absurd g44 (by decide)
            · try simp only [decide_eq_true_eq, decide_eq_false_iff_not, notT, notF, beq_iff_eq, beq_eq_false_iff_ne, bne_iff_ne, bne_eq_false_iff_eq, tmodN, tdivN, Int.not_lt, Int.not_le] at g38
              exact absurd g38 (by decide)
          · try simp only [decide_eq_true_eq, decide_eq_false_iff_not, notT, notF, beq_iff_eq, beq_eq_false_iff_ne, bne_iff_ne, bne_eq_false_iff_eq, tmodN, tdivN, Int.not_lt, Int.not_le] at g32
            exact absurd g32 (by decide)
        · try simp only [decide_eq_true_eq, decide_eq_false_iff_not, notT, notF, beq_iff_eq, beq_eq_false_iff_ne, bne_iff_ne, bne_eq_false_iff_eq, tmodN, tdivN, Int.not_lt, Int.not_le] at g28
          exact absurd g28 (by decide)
      · try simp only [decide_eq_true_eq, decide_eq_false_iff_not, notT, notF, beq_iff_eq, beq_eq_false_iff_ne, bne_iff_ne, bne_eq_false_iff_eq, tmodN, tdivN, Int.not_lt, Int.not_le] at g22
        exact absurd g22 (by decide)
    · try simp only [decide_eq_true_eq, decide_eq_false_iff_not, notT, notF, beq_iff_eq, beq_eq_false_iff_ne, bne_iff_ne, bne_eq_false_iff_eq, tmodN, tdivN, Int.not_lt, Int.not_le] at g17
      exact absurd g17 (by decide)
  · try simp only [decide_eq_true_eq, decide_eq_false_iff_not, notT, notF, beq_iff_eq, beq_eq_false_iff_ne, bne_iff_ne, bne_eq_false_iff_eq, tmodN, tdivN, Int.not_lt, Int.not_le] at g14
    exact absurd g14 (by decide)


theorem same_ok (a b : List UInt8) (o1 o2 : Bool) : FnOK Try.prog 15 [.bs a o1, .bs b o2] [] (.bool (a == b)) [] := by
  refine FnOK.of_runs Try.func15 rfl (Nat.le_of_ble_eq_true rfl) ?_
  refine Runs.seq ?_
  refine Runs.reg [] [] rfl (by (try simp only [wrap_i64', wrap_u8, wrap_u16, wrap_u32, wrap_u64, wrap_i32, List.length_cons, List.length_nil, List.length_append, List.length_map, tmodN, tdivN]); and_intros <;> first | exact True.intro | omega | skip) ?_
  refine Runs.seq ?_
  refine Runs.reg [] [0, 2] rfl (by (try simp only [wrap_i64', wrap_u8, wrap_u16, wrap_u32, wrap_u64, wrap_i32, List.length_cons, List.length_nil, List.length_append, List.length_map, tmodN, tdivN]); and_intros <;> first | exact True.intro | omega | skip) ?_
  exact Runs.retH Try.func15 rfl rfl (by first | with_reducible rfl | (refine congrArg (AV.int _) ?_; (try simp only [wrap_i64', wrap_u8, wrap_u16, wrap_u32, wrap_u64, wrap_i32, List.length_cons, List.length_nil, List.length_append, List.length_map, tmodN, tdivN]); omega) | rfl | skip) (by rfl)


theorem shr24u (n : Nat) : (n : Int).fdiv (2 ^ min (Int.toNat 24) IntKind.u32.bits) = ((n / 16777216 : Nat) : Int) := by
  show (n : Int).fdiv 16777216 = _
  rw [Int.fdiv_eq_ediv_of_nonneg _ (by decide)]; rfl
theorem shr16u (n : Nat) : (n : Int).fdiv (2 ^ min (Int.toNat 16) IntKind.u32.bits) = ((n / 65536 : Nat) : Int) := by
  show (n : Int).fdiv 65536 = _
  rw [Int.fdiv_eq_ediv_of_nonneg _ (by decide)]; rfl
theorem shr8u (n : Nat) : (n : Int).fdiv (2 ^ min (Int.toNat 8) IntKind.u32.bits) = ((n / 256 : Nat) : Int) := by
  show (n : Int).fdiv 256 = _
  rw [Int.fdiv_eq_ediv_of_nonneg _ (by decide)]; rfl
theorem shr32u (n : Nat) : (n : Int).fdiv (2 ^ min (Int.toNat 32) IntKind.u64.bits) = ((n / 4294967296 : Nat) : Int) := by
  show (n : Int).fdiv 4294967296 = _
  rw [Int.fdiv_eq_ediv_of_nonneg _ (by decide)]; rfl
theorem u32mod (n : Nat) : IntKind.u32.wrap (n : Int) = ((n % 4294967296 : Nat) : Int) := by rw [wrap_u32]; omega
theorem put_be4 (n : Nat) (h : n < 18446744073709551616) : be4 (n / 4294967296 % 4294967296) ++ be4 (n % 4294967296) = put64L n := by
  have e : put64L n = [UInt8.ofNat (n / 72057594037927936), UInt8.ofNat (n / 281474976710656), UInt8.ofNat (n / 1099511627776), UInt8.ofNat (n / 4294967296), UInt8.ofNat (n / 16777216), UInt8.ofNat (n / 65536), UInt8.ofNat (n / 256), UInt8.ofNat (n / 1)] := rfl
  rw [e]
  have c : ∀ a b : Nat, a % 256 = b % 256 → UInt8.ofNat a = UInt8.ofNat b := fun a b h => by
    apply UInt8.toNat_inj.1
    simpa using h
  simp only [be4, List.cons_append, List.nil_append]
  rw [c _ (n / 72057594037927936) (by omega), c (n / 4294967296 % 4294967296 / 65536) (n / 281474976710656) (by omega), c (n / 4294967296 % 4294967296 / 256) (n / 1099511627776) (by omega), c (n / 4294967296 % 4294967296) (n / 4294967296) (by omega),
    c (n % 4294967296 / 16777216) (n / 16777216) (by omega), c (n % 4294967296 / 65536) (n / 65536) (by omega), c (n % 4294967296 / 256) (n / 256) (by omega), c (n % 4294967296) (n / 1) (by omega)]
structure SmI (a b : List (List UInt8)) (i : Nat) : Prop where
  le : i ≤ a.length
  len : a.length = b.length
  eq : a.take i = b.take i
theorem sm_len {a b : List (List UInt8)} (h : (a.length : Int) ≠ (b.length : Int)) : (a == b) = false := by
  rw [beq_eq_false_iff_ne]
  rintro rfl
  exact h rfl
theorem SmI.ne {a b i} (h : SmI a b i) (hi : i < a.length) (hn : a.getD i [] ≠ b.getD i []) : (a == b) = false := by
  rw [beq_eq_false_iff_ne]
  rintro rfl
  exact hn rfl
theorem SmI.step {a b i} (h : SmI a b i) (hi : i < a.length) (hn : a.getD i [] = b.getD i []) : SmI a b (i + 1) := by
  have := h.len
  exact ⟨by omega, h.len, by rw [take_succ' a i [] hi, take_succ' b i [] (by omega), h.eq, hn]⟩
theorem SmI.done {a b i} (h : SmI a b i) (hi : a.length ≤ i) : (a == b) = true := by
  have h1 := h.eq
  have := h.len
  rw [List.take_of_length_le hi, List.take_of_length_le (by omega)] at h1
  rw [h1]; simp

theorem four_ok (n : Nat) : FnOK Try.prog 42 [.int .u32 n] [] (.bs (be4 n) false) [] := by
  refine FnOK.of_runs Try.func42 rfl (Nat.le_of_ble_eq_true rfl) ?_
  refine Runs.seq ?_
  refine Runs.reg [] [] rfl (by (try simp only [wrap_i64', wrap_u8, wrap_u16, wrap_u32, wrap_u64, wrap_i32, List.length_cons, List.length_nil, List.length_append, List.length_map, tmodN, tdivN]); and_intros <;> first | exact True.intro | omega | skip) ?_
  refine Runs.seq ?_
  refine Runs.reg [] [0, 3, 6, 9] rfl (by rw [shr24u, shr16u, shr8u]; and_intros <;> first | exact True.intro | decide | (intro z hz; simp only [List.mem_cons, List.not_mem_nil, or_false, wrap_u8] at hz; omega)) ?_
  exact Runs.retH Try.func42 rfl rfl (by rw [shr24u, shr16u, shr8u, pack_bytes]) (by rfl)

theorem rpack_ok (l : List (List UInt8)) (hl : l.length ≤ 16777216) (hb : (packL l).length ≤ 8388608) : FnOK Try.prog 20 [.sl 1 l.length (strEl l) false] [] (.bs (packL l) false) [] := by
  refine FnOK.of_runs Try.func20 rfl (Nat.le_of_ble_eq_true rfl) ?_
  refine Runs.seq ?_
  refine Runs.reg [] [] rfl (by (try simp only [wrap_i64', wrap_u8, wrap_u16, wrap_u32, wrap_u64, wrap_i32, List.length_cons, List.length_nil, List.length_append, List.length_map, tmodN, tdivN]); and_intros <;> first | exact True.intro | omega | skip) ?_
  refine Runs.seq ?_
  refine Runs.reg [] [] rfl (by (try simp only [wrap_i64', wrap_u8, wrap_u16, wrap_u32, wrap_u64, wrap_i32, List.length_cons, List.length_nil, List.length_append, List.length_map, tmodN, tdivN]); and_intros <;> first | exact True.intro | omega | skip) ?_
  refine Runs.seq ?_
  refine Runs.seq ?_
  refine Runs.reg [] [] rfl (by (try simp only [wrap_i64', wrap_u8, wrap_u16, wrap_u32, wrap_u64, wrap_i32, List.length_cons, List.length_nil, List.length_append, List.length_map, tmodN, tdivN]); and_intros <;> first | exact True.intro | omega | skip) ?_
  refine Runs.block ?_
  -- loop 0
  refine Runs.loopF (σ := Nat) (fun i => i ≤ l.length) (fun i => [(0, .sl 1 l.length (strEl l) false), (3, .bs (packL (l.take i)) true), (4, .int .i64 i)]) (fun _ => []) (fun i => l.length - i) (0) (by exact Nat.zero_le _) (by exact agree_cons rfl (by first | with_reducible rfl | (refine congrArg (AV.int _) ?_; (try simp only [wrap_i64', wrap_u8, wrap_u16, wrap_u32, wrap_u64, wrap_i32, List.length_cons, List.length_nil, List.length_append, List.length_map, tmodN, tdivN]); omega) | rfl | skip) (agree_cons rfl (by first | with_reducible rfl | (refine congrArg (AV.int _) ?_; (try simp only [wrap_i64', wrap_u8, wrap_u16, wrap_u32, wrap_u64, wrap_i32, List.length_cons, List.length_nil, List.length_append, List.length_map, tmodN, tdivN]); omega) | rfl | skip) (agree_cons rfl (by first | with_reducible rfl | (refine congrArg (AV.int _) ?_; (try simp only [wrap_i64', wrap_u8, wrap_u16, wrap_u32, wrap_u64, wrap_i32, List.length_cons, List.length_nil, List.length_append, List.length_map, tmodN, tdivN]); omega) | rfl | skip) (trivial)))) (by rfl) (fun i hi ih => ?_)
  have hp := packL_le l i; have hp1 := packL_le l (i + 1); have hp2 := packL_len1 l i
  refine Runs.seq ?_
  refine Runs.seq ?_
  refine Runs.reg [] [0, 1] rfl (by (try simp only [wrap_i64', wrap_u8, wrap_u16, wrap_u32, wrap_u64, wrap_i32, List.length_cons, List.length_nil, List.length_append, List.length_map, tmodN, tdivN]); and_intros <;> first | exact True.intro | omega | skip) ?_
  refine Runs.condS rfl (fun g8 => ?_) (fun g8 => ?_)
  · try simp only [decide_eq_true_eq, decide_eq_false_iff_not, notT, notF, beq_iff_eq, beq_eq_false_iff_ne, bne_iff_ne, bne_eq_false_iff_eq, tmodN, tdivN, Int.not_lt, Int.not_le] at g8
    refine Runs.skip ?_
    refine Runs.seq ?_
    refine Runs.block ?_
    refine Runs.seq ?_
    refine Runs.reg [(7, { res := .bs (be4 (l.getD (i : Int).toNat []).length) false })] [] rfl (by have hp2 := hp2 (by omega); rw [u32mod, Nat.mod_eq_of_lt (show (l.getD (i : Int).toNat []).length < 4294967296 by simp only [Int.toNat_natCast]; omega)]; simp only [be4, List.length_cons, List.length_nil]; and_intros <;> first | exact True.intro | omega | exact four_ok _) ?_
    refine Runs.reg [] [] rfl (by have hp2 := hp2 (by omega); simp only [be4, List.length_append, List.length_cons, List.length_nil, Int.toNat_natCast]; and_intros <;> first | exact True.intro | omega) ?_
    refine Runs.inBlock ?_
    refine Runs.reg [] [] rfl (by (try simp only [wrap_i64', wrap_u8, wrap_u16, wrap_u32, wrap_u64, wrap_i32, List.length_cons, List.length_nil, List.length_append, List.length_map, tmodN, tdivN]); and_intros <;> first | exact True.intro | omega | skip) ?_
    exact ih (i + 1) _ _ (by first | exact True.intro | omega) (by omega) (by exact agree_cons rfl (by first | with_reducible rfl | (refine congrArg (AV.int _) ?_; (try simp only [wrap_i64', wrap_u8, wrap_u16, wrap_u32, wrap_u64, wrap_i32, List.length_cons, List.length_nil, List.length_append, List.length_map, tmodN, tdivN]); omega) | rfl | skip) (agree_cons rfl (by exact inj (packL_take l i (by omega)).symm) (agree_cons rfl (by first | with_reducible rfl | (refine congrArg (AV.int _) ?_; (try simp only [wrap_i64', wrap_u8, wrap_u16, wrap_u32, wrap_u64, wrap_i32, List.length_cons, List.length_nil, List.length_append, List.length_map, tmodN, tdivN]); omega) | rfl | skip) (trivial)))) (by rfl)
  · try simp only [decide_eq_true_eq, decide_eq_false_iff_not, notT, notF, beq_iff_eq, beq_eq_false_iff_ne, bne_iff_ne, bne_eq_false_iff_eq, tmodN, tdivN, Int.not_lt, Int.not_le] at g8
    refine Runs.exit rfl ?_
    refine Runs.seq ?_
    refine Runs.reg [] [] rfl (by (try simp only [wrap_i64', wrap_u8, wrap_u16, wrap_u32, wrap_u64, wrap_i32, List.length_cons, List.length_nil, List.length_append, List.length_map, tmodN, tdivN]); and_intros <;> first | exact True.intro | omega | skip) ?_
    exact Runs.retH Try.func20 rfl rfl (by rw [List.take_of_length_le (by omega)]) (by rfl)

theorem rput64_ok (n : Nat) (hn : n < 18446744073709551616) : FnOK Try.prog 25 [.int .u64 n] [] (.bs (put64L n) false) [] := by
  refine FnOK.of_runs Try.func25 rfl (Nat.le_of_ble_eq_true rfl) ?_
  refine Runs.seq ?_
  refine Runs.reg [] [] rfl (by (try simp only [wrap_i64', wrap_u8, wrap_u16, wrap_u32, wrap_u64, wrap_i32, List.length_cons, List.length_nil, List.length_append, List.length_map, tmodN, tdivN]); and_intros <;> first | exact True.intro | omega | skip) ?_
  refine Runs.seq ?_
  refine Runs.reg [] [] rfl (by (try simp only [wrap_i64', wrap_u8, wrap_u16, wrap_u32, wrap_u64, wrap_i32, List.length_cons, List.length_nil, List.length_append, List.length_map, tmodN, tdivN]); and_intros <;> first | exact True.intro | omega | skip) ?_
  refine Runs.seq ?_
  refine Runs.reg [(4, { res := .bs (be4 (n / 4294967296 % 4294967296)) false })] [] rfl (by rw [shr32u, u32mod]; simp only [be4, List.length_cons, List.length_nil]; and_intros <;> first | exact True.intro | decide | omega | exact four_ok _) ?_
  refine Runs.seq ?_
  refine Runs.reg [(3, { res := .bs (be4 (n % 4294967296)) false })] [] rfl (by rw [u32mod]; simp only [be4, List.length_cons, List.length_nil, List.length_append]; and_intros <;> first | exact True.intro | decide | omega | exact four_ok _) ?_
  exact Runs.retH Try.func25 rfl rfl (by exact inj (put_be4 n hn)) (by rfl)

theorem sameTexts_ok (a b : List (List UInt8)) (ha : a.length ≤ 16777216) (hb : b.length ≤ 16777216) : FnOK Try.prog 19 [.sl 1 a.length (strEl a) false, .sl 1 b.length (strEl b) false] [] (.bool (a == b)) [] := by
  refine FnOK.of_runs Try.func19 rfl (Nat.le_of_ble_eq_true rfl) ?_
  refine Runs.seq ?_
  refine Runs.reg [] [] rfl (by (try simp only [wrap_i64', wrap_u8, wrap_u16, wrap_u32, wrap_u64, wrap_i32, List.length_cons, List.length_nil, List.length_append, List.length_map, tmodN, tdivN]); and_intros <;> first | exact True.intro | omega | skip) ?_
  refine Runs.seq ?_
  refine Runs.seq ?_
  refine Runs.reg [] [0, 2] rfl (by (try simp only [wrap_i64', wrap_u8, wrap_u16, wrap_u32, wrap_u64, wrap_i32, List.length_cons, List.length_nil, List.length_append, List.length_map, tmodN, tdivN]); and_intros <;> first | exact True.intro | omega | skip) ?_
  refine Runs.condS rfl (fun g10 => ?_) (fun g10 => ?_)
  · try simp only [decide_eq_true_eq, decide_eq_false_iff_not, notT, notF, beq_iff_eq, beq_eq_false_iff_ne, bne_iff_ne, bne_eq_false_iff_eq, tmodN, tdivN, Int.not_lt, Int.not_le] at g10
    refine Runs.seq ?_
    refine Runs.reg [] [] rfl (by (try simp only [wrap_i64', wrap_u8, wrap_u16, wrap_u32, wrap_u64, wrap_i32, List.length_cons, List.length_nil, List.length_append, List.length_map, tmodN, tdivN]); and_intros <;> first | exact True.intro | omega | skip) ?_
    exact Runs.retH Try.func19 rfl rfl (by rw [sm_len g10]) (by rfl)
  · try simp only [decide_eq_true_eq, decide_eq_false_iff_not, notT, notF, beq_iff_eq, beq_eq_false_iff_ne, bne_iff_ne, bne_eq_false_iff_eq, tmodN, tdivN, Int.not_lt, Int.not_le] at g10
    refine Runs.skip ?_
    refine Runs.seq ?_
    refine Runs.seq ?_
    refine Runs.reg [] [] rfl (by (try simp only [wrap_i64', wrap_u8, wrap_u16, wrap_u32, wrap_u64, wrap_i32, List.length_cons, List.length_nil, List.length_append, List.length_map, tmodN, tdivN]); and_intros <;> first | exact True.intro | omega | skip) ?_
    refine Runs.block ?_
    -- loop 0
    refine Runs.loopF (σ := Nat) (fun i => SmI a b i) (fun i => [(0, .sl 1 a.length (strEl a) false), (1, .sl 1 b.length (strEl b) false), (5, .int .i64 i)]) (fun _ => []) (fun i => a.length - i) (0) (by exact ⟨Nat.zero_le _, by omega, rfl⟩) (by exact agree_cons rfl (by first | with_reducible rfl | (refine congrArg (AV.int _) ?_; (try simp only [wrap_i64', wrap_u8, wrap_u16, wrap_u32, wrap_u64, wrap_i32, List.length_cons, List.length_nil, List.length_append, List.length_map, tmodN, tdivN]); omega) | rfl | skip) (agree_cons rfl (by first | with_reducible rfl | (refine congrArg (AV.int _) ?_; (try simp only [wrap_i64', wrap_u8, wrap_u16, wrap_u32, wrap_u64, wrap_i32, List.length_cons, List.length_nil, List.length_append, List.length_map, tmodN, tdivN]); omega) | rfl | skip) (agree_cons rfl (by first | with_reducible rfl | (refine congrArg (AV.int _) ?_; (try simp only [wrap_i64', wrap_u8, wrap_u16, wrap_u32, wrap_u64, wrap_i32, List.length_cons, List.length_nil, List.length_append, List.length_map, tmodN, tdivN]); omega) | rfl | skip) (trivial)))) (by rfl) (fun i hi ih => ?_)
    have hle := hi.le; have hln := hi.len
    refine Runs.seq ?_
    refine Runs.seq ?_
    refine Runs.reg [] [0, 1] rfl (by (try simp only [wrap_i64', wrap_u8, wrap_u16, wrap_u32, wrap_u64, wrap_i32, List.length_cons, List.length_nil, List.length_append, List.length_map, tmodN, tdivN]); and_intros <;> first | exact True.intro | omega | skip) ?_
    refine Runs.condS rfl (fun g14 => ?_) (fun g14 => ?_)
    · try simp only [decide_eq_true_eq, decide_eq_false_iff_not, notT, notF, beq_iff_eq, beq_eq_false_iff_ne, bne_iff_ne, bne_eq_false_iff_eq, tmodN, tdivN, Int.not_lt, Int.not_le] at g14
      refine Runs.skip ?_
      refine Runs.seq ?_
      refine Runs.block ?_
      refine Runs.seq ?_
      refine Runs.regD [] [0, 1, 4, 5] rfl rfl rfl (by (try simp only [wrap_i64', wrap_u8, wrap_u16, wrap_u32, wrap_u64, wrap_i32, List.length_cons, List.length_nil, List.length_append, List.length_map, tmodN, tdivN]); and_intros <;> first | exact True.intro | omega | skip) ?_
      refine Runs.condS rfl (fun g25 => ?_) (fun g25 => ?_)
      · try simp only [decide_eq_true_eq, decide_eq_false_iff_not, notT, notF, beq_iff_eq, beq_eq_false_iff_ne, bne_iff_ne, bne_eq_false_iff_eq, tmodN, tdivN, Int.not_lt, Int.not_le] at g25
        refine Runs.seq ?_
        refine Runs.reg [] [] rfl (by (try simp only [wrap_i64', wrap_u8, wrap_u16, wrap_u32, wrap_u64, wrap_i32, List.length_cons, List.length_nil, List.length_append, List.length_map, tmodN, tdivN]); and_intros <;> first | exact True.intro | omega | skip) ?_
        exact Runs.retH Try.func19 rfl rfl (by rw [hi.ne (by omega) (by simpa using g25)]) (by rfl)
      · try simp only [decide_eq_true_eq, decide_eq_false_iff_not, notT, notF, beq_iff_eq, beq_eq_false_iff_ne, bne_iff_ne, bne_eq_false_iff_eq, tmodN, tdivN, Int.not_lt, Int.not_le] at g25
        refine Runs.skip ?_
        refine Runs.inBlock ?_
        refine Runs.reg [] [] rfl (by (try simp only [wrap_i64', wrap_u8, wrap_u16, wrap_u32, wrap_u64, wrap_i32, List.length_cons, List.length_nil, List.length_append, List.length_map, tmodN, tdivN]); and_intros <;> first | exact True.intro | omega | skip) ?_
        exact ih (i + 1) _ _ (by exact hi.step (by omega) (by simpa using g25)) (by omega) (by exact agree_cons rfl (by first | with_reducible rfl | (refine congrArg (AV.int _) ?_; (try simp only [wrap_i64', wrap_u8, wrap_u16, wrap_u32, wrap_u64, wrap_i32, List.length_cons, List.length_nil, List.length_append, List.length_map, tmodN, tdivN]); omega) | rfl | skip) (agree_cons rfl (by first | with_reducible rfl | (refine congrArg (AV.int _) ?_; (try simp only [wrap_i64', wrap_u8, wrap_u16, wrap_u32, wrap_u64, wrap_i32, List.length_cons, List.length_nil, List.length_append, List.length_map, tmodN, tdivN]); omega) | rfl | skip) (agree_cons rfl (by first | with_reducible rfl | (refine congrArg (AV.int _) ?_; (try simp only [wrap_i64', wrap_u8, wrap_u16, wrap_u32, wrap_u64, wrap_i32, List.length_cons, List.length_nil, List.length_append, List.length_map, tmodN, tdivN]); omega) | rfl | skip) (trivial)))) (by rfl)
    · try simp only [decide_eq_true_eq, decide_eq_false_iff_not, notT, notF, beq_iff_eq, beq_eq_false_iff_ne, bne_iff_ne, bne_eq_false_iff_eq, tmodN, tdivN, Int.not_lt, Int.not_le] at g14
      refine Runs.exit rfl ?_
      refine Runs.seq ?_
      refine Runs.reg [] [] rfl (by (try simp only [wrap_i64', wrap_u8, wrap_u16, wrap_u32, wrap_u64, wrap_i32, List.length_cons, List.length_nil, List.length_append, List.length_map, tmodN, tdivN]); and_intros <;> first | exact True.intro | omega | skip) ?_
      exact Runs.retH Try.func19 rfl rfl (by rw [hi.done (by omega)]) (by rfl)


def n64 (b : List UInt8) : Nat := b.foldl (fun n c => n * 256 + c.toNat) 0
def get64 (b : List UInt8) : Option Nat := if b.length = 8 then some (n64 b) else none
theorem n64_snoc (b : List UInt8) (c : UInt8) : n64 (b ++ [c]) = n64 b * 256 + c.toNat := by simp [n64]
theorem n64_lt : ∀ (i : Nat) (b : List UInt8), b.length = i → n64 b < 256 ^ i := by
  intro i
  induction i with
  | zero => intro b h; rw [List.eq_nil_of_length_eq_zero h]; decide
  | succ i ih =>
    intro b h
    obtain ⟨r, c, rfl⟩ : ∃ r c, b = r ++ [c] := ⟨b.dropLast, b.getLast (by intro e; rw [e] at h; simp at h), (List.dropLast_concat_getLast _).symm⟩
    simp at h
    have := ih r h
    have := c.toNat_lt
    rw [n64_snoc, Nat.pow_succ]; omega
theorem n64_take_lt (b : List UInt8) (i : Nat) (h : i < 8) : n64 (b.take i) < 72057594037927936 := by
  have h1 := n64_lt (b.take i).length (b.take i) rfl
  exact Nat.lt_of_lt_of_le h1 (Nat.pow_le_pow_right (n := 256) (by decide) (show (b.take i).length ≤ 7 by simp; omega))
theorem get_or (m : Nat) (c : UInt8) (h : m < 72057594037927936) : bitsE .or .u64 (IntKind.u64.wrap ((m : Int) * 2 ^ min (Int.toNat 8) IntKind.u64.bits)) (IntKind.u64.wrap (c.toNat : Int)) = ((m * 256 + c.toNat : Nat) : Int) := by
  have hc := c.toNat_lt
  have e1 : IntKind.u64.wrap ((m : Int) * 2 ^ min (Int.toNat 8) IntKind.u64.bits) = ((256 * m : Nat) : Int) := by
    show IntKind.u64.wrap ((m : Int) * 256) = _
    rw [wrap_u64]; omega
  have e2 : IntKind.u64.wrap (c.toNat : Int) = (c.toNat : Int) := by rw [wrap_u64]; omega
  rw [e1, e2, (Go.Am.bits_nat .u64 (a := 256 * m) (b := c.toNat) (show 256 * m < 18446744073709551616 by omega) (Nat.lt_trans hc (by decide)) rfl).2.1]
  have h2 := Nat.two_pow_add_eq_or_of_lt (i := 8) (b := c.toNat) hc m
  rw [show (2 : Nat) ^ 8 = 256 from rfl] at h2
  rw [← h2, Nat.mul_comm]
theorem get_add (m : Nat) (c : UInt8) (h : m < 72057594037927936) : IntKind.u64.wrap (IntKind.u64.wrap (256 * (m : Int)) + IntKind.u64.wrap (c.toNat : Int)) = ((m * 256 + c.toNat : Nat) : Int) := by
  have hc := c.toNat_lt
  rw [wrap_u64, wrap_u64, wrap_u64]; omega
theorem n64_step (b : List UInt8) (i : Nat) (h : i < b.length) : n64 (b.take i) * 256 + (b.getD (i : Int).toNat 0).toNat = n64 (b.take (i + 1)) := by
  rw [take_succ' b i 0 h, n64_snoc, Int.toNat_natCast]
theorem get_none {b : List UInt8} (h : (b.length : Int) ≠ 8) : get64 b = none := by unfold get64; rw [if_neg (by omega)]
theorem get_some {b : List UInt8} {i : Nat} (h : (b.length : Int) = 8) (hi : 8 ≤ i) : get64 b = some (n64 (b.take i)) := by unfold get64; rw [if_pos (by omega), List.take_of_length_le (by omega)]
theorem iinj {a b : Int} {k : IntKind} (h : a = b) : AV.int k a = AV.int k b := by rw [h]

theorem get64_ok (b : List UInt8) (hb : b.length ≤ 16777216) : FnOK Try.prog 22 [.bs b false] [] (.tup [.int .u64 ((get64 b).getD 0 : Nat), .bool (get64 b).isSome]) [] := by
  refine FnOK.of_runs Try.func22 rfl (Nat.le_of_ble_eq_true rfl) ?_
  refine Runs.seq ?_
  refine Runs.reg [] [] rfl (by (try simp only [wrap_i64', wrap_u8, wrap_u16, wrap_u32, wrap_u64, wrap_i32, List.length_cons, List.length_nil, List.length_append, List.length_map, tmodN, tdivN]); and_intros <;> first | exact True.intro | omega | skip) ?_
  refine Runs.seq ?_
  refine Runs.seq ?_
  refine Runs.reg [] [0] rfl (by (try simp only [wrap_i64', wrap_u8, wrap_u16, wrap_u32, wrap_u64, wrap_i32, List.length_cons, List.length_nil, List.length_append, List.length_map, tmodN, tdivN]); and_intros <;> first | exact True.intro | omega | skip) ?_
  refine Runs.condS rfl (fun g9 => ?_) (fun g9 => ?_)
  · try simp only [decide_eq_true_eq, decide_eq_false_iff_not, notT, notF, beq_iff_eq, beq_eq_false_iff_ne, bne_iff_ne, bne_eq_false_iff_eq, tmodN, tdivN, Int.not_lt, Int.not_le] at g9
    refine Runs.seq ?_
    refine Runs.reg [] [] rfl (by (try simp only [wrap_i64', wrap_u8, wrap_u16, wrap_u32, wrap_u64, wrap_i32, List.length_cons, List.length_nil, List.length_append, List.length_map, tmodN, tdivN]); and_intros <;> first | exact True.intro | omega | skip) ?_
    exact Runs.retH Try.func22 rfl rfl (by rw [get_none g9]; rfl) (by rfl)
  · try simp only [decide_eq_true_eq, decide_eq_false_iff_not, notT, notF, beq_iff_eq, beq_eq_false_iff_ne, bne_iff_ne, bne_eq_false_iff_eq, tmodN, tdivN, Int.not_lt, Int.not_le] at g9
    refine Runs.skip ?_
    refine Runs.seq ?_
    refine Runs.reg [] [] rfl (by (try simp only [wrap_i64', wrap_u8, wrap_u16, wrap_u32, wrap_u64, wrap_i32, List.length_cons, List.length_nil, List.length_append, List.length_map, tmodN, tdivN]); and_intros <;> first | exact True.intro | omega | skip) ?_
    refine Runs.seq ?_
    refine Runs.seq ?_
    refine Runs.reg [] [0] rfl (by (try simp only [wrap_i64', wrap_u8, wrap_u16, wrap_u32, wrap_u64, wrap_i32, List.length_cons, List.length_nil, List.length_append, List.length_map, tmodN, tdivN]); and_intros <;> first | exact True.intro | omega | skip) ?_
    refine Runs.block ?_
    -- loop 0
    refine Runs.loopF (σ := Nat) (fun i => i ≤ 8) (fun i => [(4, .int .u64 (n64 (b.take i) : Nat)), (10, .bs b false), (11, .int .i64 b.length), (12, .int .i64 i)]) (fun _ => []) (fun i => 8 - i) (0) (by exact Nat.zero_le _) (by exact agree_cons rfl (by first | with_reducible rfl | (refine congrArg (AV.int _) ?_; (try simp only [wrap_i64', wrap_u8, wrap_u16, wrap_u32, wrap_u64, wrap_i32, List.length_cons, List.length_nil, List.length_append, List.length_map, tmodN, tdivN]); omega) | rfl | skip) (agree_cons rfl (by first | with_reducible rfl | (refine congrArg (AV.int _) ?_; (try simp only [wrap_i64', wrap_u8, wrap_u16, wrap_u32, wrap_u64, wrap_i32, List.length_cons, List.length_nil, List.length_append, List.length_map, tmodN, tdivN]); omega) | rfl | skip) (agree_cons rfl (by first | with_reducible rfl | (refine congrArg (AV.int _) ?_; (try simp only [wrap_i64', wrap_u8, wrap_u16, wrap_u32, wrap_u64, wrap_i32, List.length_cons, List.length_nil, List.length_append, List.length_map, tmodN, tdivN]); omega) | rfl | skip) (agree_cons rfl (by first | with_reducible rfl | (refine congrArg (AV.int _) ?_; (try simp only [wrap_i64', wrap_u8, wrap_u16, wrap_u32, wrap_u64, wrap_i32, List.length_cons, List.length_nil, List.length_append, List.length_map, tmodN, tdivN]); omega) | rfl | skip) (trivial))))) (by rfl) (fun i hi ih => ?_)
    have hle : i ≤ 8 := hi
    refine Runs.seq ?_
    refine Runs.reg [] [] rfl (by (try simp only [wrap_i64', wrap_u8, wrap_u16, wrap_u32, wrap_u64, wrap_i32, List.length_cons, List.length_nil, List.length_append, List.length_map, tmodN, tdivN]); and_intros <;> first | exact True.intro | omega | skip) ?_
    refine Runs.seq ?_
    refine Runs.condS rfl (fun g13 => ?_) (fun g13 => ?_)
    · try simp only [decide_eq_true_eq, decide_eq_false_iff_not, notT, notF, beq_iff_eq, beq_eq_false_iff_ne, bne_iff_ne, bne_eq_false_iff_eq, tmodN, tdivN, Int.not_lt, Int.not_le] at g13
      refine Runs.skip ?_
      refine Runs.seq ?_
      refine Runs.block ?_
      refine Runs.seq ?_
      refine Runs.reg [] [] rfl (by (try simp only [wrap_i64', wrap_u8, wrap_u16, wrap_u32, wrap_u64, wrap_i32, List.length_cons, List.length_nil, List.length_append, List.length_map, tmodN, tdivN]); and_intros <;> first | exact True.intro | omega | skip) ?_
      refine Runs.reg [] [2] rfl (by (try simp only [wrap_i64', wrap_u8, wrap_u16, wrap_u32, wrap_u64, wrap_i32, List.length_cons, List.length_nil, List.length_append, List.length_map, tmodN, tdivN]); and_intros <;> first | exact True.intro | omega | skip) ?_
      refine Runs.inBlock ?_
      refine Runs.reg [] [] rfl (by (try simp only [wrap_i64', wrap_u8, wrap_u16, wrap_u32, wrap_u64, wrap_i32, List.length_cons, List.length_nil, List.length_append, List.length_map, tmodN, tdivN]); and_intros <;> first | exact True.intro | omega | skip) ?_
      exact ih (i + 1) _ _ (by first | exact True.intro | omega) (by omega) (by exact agree_cons rfl (by rw [get_or _ _ (n64_take_lt b i (by omega)), n64_step b i (by omega)]) (agree_cons rfl (by first | with_reducible rfl | (refine congrArg (AV.int _) ?_; (try simp only [wrap_i64', wrap_u8, wrap_u16, wrap_u32, wrap_u64, wrap_i32, List.length_cons, List.length_nil, List.length_append, List.length_map, tmodN, tdivN]); omega) | rfl | skip) (agree_cons rfl (by first | with_reducible rfl | (refine congrArg (AV.int _) ?_; (try simp only [wrap_i64', wrap_u8, wrap_u16, wrap_u32, wrap_u64, wrap_i32, List.length_cons, List.length_nil, List.length_append, List.length_map, tmodN, tdivN]); omega) | rfl | skip) (agree_cons rfl (by first | with_reducible rfl | (refine congrArg (AV.int _) ?_; (try simp only [wrap_i64', wrap_u8, wrap_u16, wrap_u32, wrap_u64, wrap_i32, List.length_cons, List.length_nil, List.length_append, List.length_map, tmodN, tdivN]); omega) | rfl | skip) (trivial))))) (by rfl)
    · try simp only [decide_eq_true_eq, decide_eq_false_iff_not, notT, notF, beq_iff_eq, beq_eq_false_iff_ne, bne_iff_ne, bne_eq_false_iff_eq, tmodN, tdivN, Int.not_lt, Int.not_le] at g13
      refine Runs.exit rfl ?_
      refine Runs.seq ?_
      refine Runs.reg [] [0] rfl (by (try simp only [wrap_i64', wrap_u8, wrap_u16, wrap_u32, wrap_u64, wrap_i32, List.length_cons, List.length_nil, List.length_append, List.length_map, tmodN, tdivN]); and_intros <;> first | exact True.intro | omega | skip) ?_
      exact Runs.retH Try.func22 rfl rfl (by rw [get_some (i := i) (by omega) (by omega)]; rfl) (by rfl)

theorem rget64_ok (b : List UInt8) (hb : b.length ≤ 16777216) : FnOK Try.prog 23 [.bs b false] [] (.tup [.int .u64 ((get64 b).getD 0 : Nat), .bool (get64 b).isSome]) [] := by
  refine FnOK.of_runs Try.func23 rfl (Nat.le_of_ble_eq_true rfl) ?_
  refine Runs.seq ?_
  refine Runs.reg [] [] rfl (by (try simp only [wrap_i64', wrap_u8, wrap_u16, wrap_u32, wrap_u64, wrap_i32, List.length_cons, List.length_nil, List.length_append, List.length_map, tmodN, tdivN]); and_intros <;> first | exact True.intro | omega | skip) ?_
  refine Runs.seq ?_
  refine Runs.seq ?_
  refine Runs.reg [] [0] rfl (by (try simp only [wrap_i64', wrap_u8, wrap_u16, wrap_u32, wrap_u64, wrap_i32, List.length_cons, List.length_nil, List.length_append, List.length_map, tmodN, tdivN]); and_intros <;> first | exact True.intro | omega | skip) ?_
  refine Runs.condS rfl (fun g8 => ?_) (fun g8 => ?_)
  · try simp only [decide_eq_true_eq, decide_eq_false_iff_not, notT, notF, beq_iff_eq, beq_eq_false_iff_ne, bne_iff_ne, bne_eq_false_iff_eq, tmodN, tdivN, Int.not_lt, Int.not_le] at g8
    refine Runs.seq ?_
    refine Runs.reg [] [] rfl (by (try simp only [wrap_i64', wrap_u8, wrap_u16, wrap_u32, wrap_u64, wrap_i32, List.length_cons, List.length_nil, List.length_append, List.length_map, tmodN, tdivN]); and_intros <;> first | exact True.intro | omega | skip) ?_
    exact Runs.retH Try.func23 rfl rfl (by rw [get_none g8]; rfl) (by rfl)
  · try simp only [decide_eq_true_eq, decide_eq_false_iff_not, notT, notF, beq_iff_eq, beq_eq_false_iff_ne, bne_iff_ne, bne_eq_false_iff_eq, tmodN, tdivN, Int.not_lt, Int.not_le] at g8
    refine Runs.skip ?_
    refine Runs.seq ?_
    refine Runs.reg [] [] rfl (by (try simp only [wrap_i64', wrap_u8, wrap_u16, wrap_u32, wrap_u64, wrap_i32, List.length_cons, List.length_nil, List.length_append, List.length_map, tmodN, tdivN]); and_intros <;> first | exact True.intro | omega | skip) ?_
    refine Runs.seq ?_
    refine Runs.seq ?_
    refine Runs.reg [] [] rfl (by (try simp only [wrap_i64', wrap_u8, wrap_u16, wrap_u32, wrap_u64, wrap_i32, List.length_cons, List.length_nil, List.length_append, List.length_map, tmodN, tdivN]); and_intros <;> first | exact True.intro | omega | skip) ?_
    refine Runs.block ?_
    -- loop 0
    refine Runs.loopF (σ := Nat) (fun i => i ≤ 8) (fun i => [(0, .bs b false), (4, .int .u64 (n64 (b.take i) : Nat)), (5, .int .i64 i)]) (fun _ => []) (fun i => 8 - i) (0) (by exact Nat.zero_le _) (by exact agree_cons rfl (by first | with_reducible rfl | (refine congrArg (AV.int _) ?_; (try simp only [wrap_i64', wrap_u8, wrap_u16, wrap_u32, wrap_u64, wrap_i32, List.length_cons, List.length_nil, List.length_append, List.length_map, tmodN, tdivN]); omega) | rfl | skip) (agree_cons rfl (by first | with_reducible rfl | (refine congrArg (AV.int _) ?_; (try simp only [wrap_i64', wrap_u8, wrap_u16, wrap_u32, wrap_u64, wrap_i32, List.length_cons, List.length_nil, List.length_append, List.length_map, tmodN, tdivN]); omega) | rfl | skip) (agree_cons rfl (by first | with_reducible rfl | (refine congrArg (AV.int _) ?_; (try simp only [wrap_i64', wrap_u8, wrap_u16, wrap_u32, wrap_u64, wrap_i32, List.length_cons, List.length_nil, List.length_append, List.length_map, tmodN, tdivN]); omega) | rfl | skip) (trivial)))) (by rfl) (fun i hi ih => ?_)
    have hle : i ≤ 8 := hi
    refine Runs.seq ?_
    refine Runs.seq ?_
    refine Runs.reg [] [0] rfl (by (try simp only [wrap_i64', wrap_u8, wrap_u16, wrap_u32, wrap_u64, wrap_i32, List.length_cons, List.length_nil, List.length_append, List.length_map, tmodN, tdivN]); and_intros <;> first | exact True.intro | omega | skip) ?_
    refine Runs.condS rfl (fun g10 => ?_) (fun g10 => ?_)
    · try simp only [decide_eq_true_eq, decide_eq_false_iff_not, notT, notF, beq_iff_eq, beq_eq_false_iff_ne, bne_iff_ne, bne_eq_false_iff_eq, tmodN, tdivN, Int.not_lt, Int.not_le] at g10
      refine Runs.skip ?_
      refine Runs.seq ?_
      refine Runs.block ?_
      refine Runs.reg [] [2, 3] rfl (by (try simp only [wrap_i64', wrap_u8, wrap_u16, wrap_u32, wrap_u64, wrap_i32, List.length_cons, List.length_nil, List.length_append, List.length_map, tmodN, tdivN]); and_intros <;> first | exact True.intro | omega | skip) ?_
      refine Runs.inBlock ?_
      refine Runs.reg [] [] rfl (by (try simp only [wrap_i64', wrap_u8, wrap_u16, wrap_u32, wrap_u64, wrap_i32, List.length_cons, List.length_nil, List.length_append, List.length_map, tmodN, tdivN]); and_intros <;> first | exact True.intro | omega | skip) ?_
      exact ih (i + 1) _ _ (by first | exact True.intro | omega) (by omega) (by exact agree_cons rfl (by first | with_reducible rfl | (refine congrArg (AV.int _) ?_; (try simp only [wrap_i64', wrap_u8, wrap_u16, wrap_u32, wrap_u64, wrap_i32, List.length_cons, List.length_nil, List.length_append, List.length_map, tmodN, tdivN]); omega) | rfl | skip) (agree_cons rfl (by rw [get_add _ _ (n64_take_lt b i (by omega)), n64_step b i (by omega)]) (agree_cons rfl (by first | with_reducible rfl | (refine congrArg (AV.int _) ?_; (try simp only [wrap_i64', wrap_u8, wrap_u16, wrap_u32, wrap_u64, wrap_i32, List.length_cons, List.length_nil, List.length_append, List.length_map, tmodN, tdivN]); omega) | rfl | skip) (trivial)))) (by rfl)
    · try simp only [decide_eq_true_eq, decide_eq_false_iff_not, notT, notF, beq_iff_eq, beq_eq_false_iff_ne, bne_iff_ne, bne_eq_false_iff_eq, tmodN, tdivN, Int.not_lt, Int.not_le] at g10
      refine Runs.exit rfl ?_
      refine Runs.seq ?_
      refine Runs.reg [] [0] rfl (by (try simp only [wrap_i64', wrap_u8, wrap_u16, wrap_u32, wrap_u64, wrap_i32, List.length_cons, List.length_nil, List.length_append, List.length_map, tmodN, tdivN]); and_intros <;> first | exact True.intro | omega | skip) ?_
      exact Runs.retH Try.func23 rfl rfl (by rw [get_some (i := i) (by omega) (by omega)]; rfl) (by rfl)


def num4 (b : List UInt8) : Nat := (b.getD 0 0).toNat * 16777216 + (b.getD 1 0).toNat * 65536 + (b.getD 2 0).toNat * 256 + (b.getD 3 0).toNat
def unp : Nat → List UInt8 → Option (List (List UInt8))
  | 0, _ => some []
  | k + 1, b => if b.length = 0 then some [] else if b.length < 4 then none else if b.length - 4 < num4 b then none else (unp k (b.drop (4 + num4 b))).map ((b.drop 4).take (num4 b) :: ·)
def unpackL (b : List UInt8) : Option (List (List UInt8)) := unp b.length b
theorem num4_lt (b : List UInt8) : num4 b < 4294967296 := by
  have := (b.getD 0 0).toNat_lt; have := (b.getD 1 0).toNat_lt; have := (b.getD 2 0).toNat_lt; have := (b.getD 3 0).toNat_lt
  unfold num4; omega
structure UpI (b rest : List UInt8) (out : List (List UInt8)) (k : Nat) : Prop where
  le : rest.length ≤ k
  sum : out.length + rest.length ≤ b.length
  eq : unpackL b = (unp k rest).map (out ++ ·)
theorem UpI.start (b : List UInt8) : UpI b b [] b.length := ⟨Nat.le_refl _, by simp, by simp [unpackL]⟩
theorem UpI.done {b rest out k} (h : UpI b rest out k) (hr : rest.length = 0) : unpackL b = some out := by
  rw [h.eq]
  cases k with
  | zero => simp [unp]
  | succ k => rw [unp, if_pos hr]; simp
theorem UpI.short {b rest out k} (h : UpI b rest out k) (h0 : 0 < rest.length) (h4 : rest.length < 4) : unpackL b = none := by
  have := h.le
  rw [h.eq]
  obtain ⟨k, rfl⟩ : ∃ j, k = j + 1 := ⟨k - 1, by omega⟩
  rw [unp, if_neg (by omega), if_pos h4]; rfl
theorem UpI.far {b rest out k} (h : UpI b rest out k) (h4 : 4 ≤ rest.length) (hn : rest.length - 4 < num4 rest) : unpackL b = none := by
  have := h.le
  rw [h.eq]
  obtain ⟨k, rfl⟩ : ∃ j, k = j + 1 := ⟨k - 1, by omega⟩
  rw [unp, if_neg (by omega), if_neg (by omega), if_pos hn]; rfl
theorem UpI.step {b rest out k} (h : UpI b rest out k) (h4 : 4 ≤ rest.length) (hn : num4 rest ≤ rest.length - 4) : UpI b (rest.drop (4 + num4 rest)) (out ++ [(rest.drop 4).take (num4 rest)]) (k - 1) := by
  have h1 := h.le; have h2 := h.sum
  refine ⟨by rw [List.length_drop]; omega, by simp; omega, ?_⟩
  rw [h.eq]
  obtain ⟨k, rfl⟩ : ∃ j, k = j + 1 := ⟨k - 1, by omega⟩
  rw [unp, if_neg (by omega), if_neg (by omega), if_neg (by omega), Nat.add_sub_cancel, Option.map_map]
  congr 1
  funext l
  simp
theorem or_i64 {a b : Nat} (ha : a < 4611686018427387904) (hb : b < 4611686018427387904) : bitsE .or .i64 (a : Int) (b : Int) = ((a ||| b : Nat) : Int) := by
  have e : ∀ x : Nat, x < 4611686018427387904 → (BitVec.ofInt IntKind.i64.bits (x : Int)).toNat = x := by
    intro x hx
    rw [BitVec.toNat_ofInt]
    have : ((x : Int) % ((2 ^ IntKind.i64.bits : Nat) : Int)) = (x : Int) := Int.emod_eq_of_lt (Int.natCast_nonneg _) (by show (x : Int) < 18446744073709551616; omega)
    rw [this]; simp
  have hlt : a ||| b < 2 ^ 62 := Nat.or_lt_two_pow ha hb
  simp only [bitsE]
  rw [BitVec.toNat_or, e a ha, e b hb, i64_id (by omega) (by omega)]
theorem w8 (c : UInt8) : IntKind.i64.wrap (c.toNat : Int) = (c.toNat : Int) := by have := c.toNat_lt; rw [i64_id (by omega) (by omega)]
theorem up_or (b : List UInt8) : bitsE .or .i64 (bitsE .or .i64 (bitsE .or .i64 (IntKind.i64.wrap (IntKind.i64.wrap ((b.getD 0 0).toNat : Int) * 2 ^ min (Int.toNat 24) IntKind.i64.bits)) (IntKind.i64.wrap (IntKind.i64.wrap ((b.getD 1 0).toNat : Int) * 2 ^ min (Int.toNat 16) IntKind.i64.bits))) (IntKind.i64.wrap (IntKind.i64.wrap ((b.getD 2 0).toNat : Int) * 2 ^ min (Int.toNat 8) IntKind.i64.bits))) (IntKind.i64.wrap ((b.getD 3 0).toNat : Int)) = ((num4 b : Nat) : Int) := by
  unfold num4
  generalize b.getD 0 0 = x
  generalize b.getD 1 0 = y
  generalize b.getD 2 0 = z
  generalize b.getD 3 0 = t
  have hx := x.toNat_lt; have hy := y.toNat_lt; have hz := z.toNat_lt; have ht := t.toNat_lt
  rw [w8, w8, w8, w8]
  have e1 : IntKind.i64.wrap ((x.toNat : Int) * 2 ^ min (Int.toNat 24) IntKind.i64.bits) = ((16777216 * x.toNat : Nat) : Int) := by
    show IntKind.i64.wrap ((x.toNat : Int) * 16777216) = _
    rw [i64_id (by omega) (by omega)]; omega
  have e2 : IntKind.i64.wrap ((y.toNat : Int) * 2 ^ min (Int.toNat 16) IntKind.i64.bits) = ((65536 * y.toNat : Nat) : Int) := by
    show IntKind.i64.wrap ((y.toNat : Int) * 65536) = _
    rw [i64_id (by omega) (by omega)]; omega
  have e3 : IntKind.i64.wrap ((z.toNat : Int) * 2 ^ min (Int.toNat 8) IntKind.i64.bits) = ((256 * z.toNat : Nat) : Int) := by
    show IntKind.i64.wrap ((z.toNat : Int) * 256) = _
    rw [i64_id (by omega) (by omega)]; omega
  have h1 := Nat.two_pow_add_eq_or_of_lt (i := 24) (b := 65536 * y.toNat) (show 65536 * y.toNat < 2 ^ 24 by omega) x.toNat
  rw [show (2 : Nat) ^ 24 = 16777216 from rfl] at h1
  have h2 := Nat.two_pow_add_eq_or_of_lt (i := 16) (b := 256 * z.toNat) (show 256 * z.toNat < 2 ^ 16 by omega) (256 * x.toNat + y.toNat)
  rw [show (2 : Nat) ^ 16 = 65536 from rfl] at h2
  have h3 := Nat.two_pow_add_eq_or_of_lt (i := 8) (b := t.toNat) ht (65536 * x.toNat + 256 * y.toNat + z.toNat)
  rw [show (2 : Nat) ^ 8 = 256 from rfl] at h3
  rw [e1, e2, e3, or_i64 (by omega) (by omega), ← h1, or_i64 (by omega) (by omega), show 16777216 * x.toNat + 65536 * y.toNat = 65536 * (256 * x.toNat + y.toNat) by omega, ← h2, or_i64 (by omega) (by omega),
    show 65536 * (256 * x.toNat + y.toNat) + 256 * z.toNat = 256 * (65536 * x.toNat + 256 * y.toNat + z.toNat) by omega, ← h3]
  omega
theorem up_drop (rest : List UInt8) (n : Nat) (h : n < 4294967296) : List.drop (IntKind.i64.wrap (4 + (n : Int))).toNat (List.take ((rest.length : Nat) : Int).toNat rest) = rest.drop (4 + n) := by
  rw [i64_id (by omega) (by omega), Int.toNat_natCast, List.take_length, show (4 + (n : Int)).toNat = 4 + n by omega]
theorem up_take (rest : List UInt8) (n : Nat) (h : n < 4294967296) (h2 : n ≤ rest.length) : List.drop (Int.toNat 4) (List.take (IntKind.i64.wrap (4 + (n : Int))).toNat rest) = (rest.drop 4).take n := by
  rw [i64_id (by omega) (by omega), show (4 + (n : Int)).toNat = 4 + n by omega, show Int.toNat 4 = 4 from rfl, List.drop_take]
  congr 1; omega
theorem gd_drop (b : List UInt8) (i j : Nat) : (b.drop i).getD j 0 = b.getD (i + j) 0 := by simp [List.getD_eq_getElem?_getD]
theorem ix (i j : Nat) (h : i ≤ 16777216) (hj : j ≤ 8) : (IntKind.i64.wrap ((i : Int) + (j : Int))).toNat = i + j := by rw [i64_id (by omega) (by omega)]; omega
theorem up_add (b : List UInt8) (i : Nat) (h : i ≤ 16777216) : IntKind.i64.wrap (IntKind.i64.wrap (IntKind.i64.wrap (IntKind.i64.wrap (IntKind.i64.wrap ((b.getD (i : Int).toNat 0).toNat : Int) * 2 ^ min (Int.toNat 24) IntKind.i64.bits) + IntKind.i64.wrap (IntKind.i64.wrap ((b.getD (IntKind.i64.wrap ((i : Int) + 1)).toNat 0).toNat : Int) * 2 ^ min (Int.toNat 16) IntKind.i64.bits)) + IntKind.i64.wrap (IntKind.i64.wrap ((b.getD (IntKind.i64.wrap ((i : Int) + 2)).toNat 0).toNat : Int) * 2 ^ min (Int.toNat 8) IntKind.i64.bits)) + IntKind.i64.wrap ((b.getD (IntKind.i64.wrap ((i : Int) + 3)).toNat 0).toNat : Int)) = ((num4 (b.drop i) : Nat) : Int) := by
  unfold num4
  rw [gd_drop, gd_drop, gd_drop, gd_drop]
  have e1 := ix i 1 h (by decide)
  have e2 := ix i 2 h (by decide)
  have e3 := ix i 3 h (by decide)
  rw [show ((1 : Nat) : Int) = 1 from rfl] at e1
  rw [show ((2 : Nat) : Int) = 2 from rfl] at e2
  rw [show ((3 : Nat) : Int) = 3 from rfl] at e3
  rw [e1, e2, e3, Int.toNat_natCast, Nat.add_zero]
  generalize b.getD i 0 = x
  generalize b.getD (i + 1) 0 = y
  generalize b.getD (i + 2) 0 = z
  generalize b.getD (i + 3) 0 = t
  have hx := x.toNat_lt; have hy := y.toNat_lt; have hz := z.toNat_lt; have ht := t.toNat_lt
  rw [w8, w8, w8, w8]
  have f1 : IntKind.i64.wrap ((x.toNat : Int) * 2 ^ min (Int.toNat 24) IntKind.i64.bits) = ((16777216 * x.toNat : Nat) : Int) := by
    show IntKind.i64.wrap ((x.toNat : Int) * 16777216) = _
    rw [i64_id (by omega) (by omega)]; omega
  have f2 : IntKind.i64.wrap ((y.toNat : Int) * 2 ^ min (Int.toNat 16) IntKind.i64.bits) = ((65536 * y.toNat : Nat) : Int) := by
    show IntKind.i64.wrap ((y.toNat : Int) * 65536) = _
    rw [i64_id (by omega) (by omega)]; omega
  have f3 : IntKind.i64.wrap ((z.toNat : Int) * 2 ^ min (Int.toNat 8) IntKind.i64.bits) = ((256 * z.toNat : Nat) : Int) := by
    show IntKind.i64.wrap ((z.toNat : Int) * 256) = _
    rw [i64_id (by omega) (by omega)]; omega
  rw [f1, f2, f3, i64_id (x := ((16777216 * x.toNat : Nat) : Int) + ((65536 * y.toNat : Nat) : Int)) (by omega) (by omega), i64_id (x := ((16777216 * x.toNat : Nat) : Int) + ((65536 * y.toNat : Nat) : Int) + ((256 * z.toNat : Nat) : Int)) (by omega) (by omega), i64_id (by omega) (by omega)]
  omega
theorem up_cut (b : List UInt8) (i n : Nat) (h : i ≤ 16777220) (hn : n < 4294967296) : List.drop ((i + 4 : Nat) : Int).toNat (List.take (IntKind.i64.wrap (((i + 4 : Nat) : Int) + (n : Int))).toNat b) = ((b.drop i).drop 4).take n := by
  rw [i64_id (by omega) (by omega), show (((i + 4 : Nat) : Int) + (n : Int)).toNat = i + 4 + n by omega, Int.toNat_natCast, List.drop_take, List.drop_drop]
  congr 1; omega
theorem strs_app (out : List (List UInt8)) (x : List UInt8) (o : Bool) : Imp (.sl 1 (out.length + 1) (apEl out.length (strEl out) (elOf false 1 [.str x])) o) (.sl 1 (out ++ [x]).length (strEl (out ++ [x])) o) := by
  refine Imp.slEq (by simp) fun i hi => ?_
  rcases Nat.lt_or_ge i out.length with h | h
  · rw [apEl_lt h]
    simp [List.getD_eq_getElem?_getD, List.getElem?_append_left h]
  · have : i = out.length := by omega
    subst this
    rw [apEl_ge h]
    simp [elOf, List.getD_eq_getElem?_getD]

theorem unpack_ok (b : List UInt8) (hb : b.length ≤ 16777216) : FnOK Try.prog 18 [.bs b false] [] (.tup [.sl 1 ((unpackL b).getD []).length (strEl ((unpackL b).getD [])) false, .bool (unpackL b).isSome]) [] := by
  refine FnOK.of_runs Try.func18 rfl (Nat.le_of_ble_eq_true rfl) ?_
  refine Runs.seq ?_
  refine Runs.reg [] [] rfl (by (try simp only [wrap_i64', wrap_u8, wrap_u16, wrap_u32, wrap_u64, wrap_i32, List.length_cons, List.length_nil, List.length_append, List.length_map, tmodN, tdivN]); and_intros <;> first | exact True.intro | omega | skip) ?_
  refine Runs.seq ?_
  refine Runs.reg [] [] rfl (by (try simp only [wrap_i64', wrap_u8, wrap_u16, wrap_u32, wrap_u64, wrap_i32, List.length_cons, List.length_nil, List.length_append, List.length_map, tmodN, tdivN]); and_intros <;> first | exact True.intro | omega | skip) ?_
  refine Runs.seq ?_
  refine Runs.block ?_
  -- loop 0
  refine Runs.loopF (σ := List UInt8 × List (List UInt8) × Nat) (fun p => UpI b p.1 p.2.1 p.2.2) (fun p => [(0, .bs p.1 false), (4, .sl 1 p.2.1.length (strEl p.2.1) true)]) (fun _ => []) (fun p => p.1.length) ((b, [], b.length)) (by exact UpI.start b) (by exact agree_cons rfl (by first | with_reducible rfl | (refine congrArg (AV.int _) ?_; (try simp only [wrap_i64', wrap_u8, wrap_u16, wrap_u32, wrap_u64, wrap_i32, List.length_cons, List.length_nil, List.length_append, List.length_map, tmodN, tdivN]); omega) | rfl | skip) (agree_imp rfl (by exact Imp.slEq rfl (fun i hi => absurd hi (Nat.not_lt_zero _))) rfl rfl (trivial))) (by rfl) (fun ⟨rest, out, k⟩ hi ih => ?_)
  replace hi : UpI b rest out k := hi; have hle := hi.sum; have hnl := num4_lt rest; dsimp only
  refine Runs.seq ?_
  refine Runs.seq ?_
  refine Runs.reg [] [0] rfl (by (try simp only [wrap_i64', wrap_u8, wrap_u16, wrap_u32, wrap_u64, wrap_i32, List.length_cons, List.length_nil, List.length_append, List.length_map, tmodN, tdivN]); and_intros <;> first | exact True.intro | omega | skip) ?_
  refine Runs.condS rfl (fun g8 => ?_) (fun g8 => ?_)
  · try simp only [decide_eq_true_eq, decide_eq_false_iff_not, notT, notF, beq_iff_eq, beq_eq_false_iff_ne, bne_iff_ne, bne_eq_false_iff_eq, tmodN, tdivN, Int.not_lt, Int.not_le] at g8
    refine Runs.skip ?_
    refine Runs.block ?_
    refine Runs.seq ?_
    refine Runs.seq ?_
    refine Runs.reg [] [0] rfl (by (try simp only [wrap_i64', wrap_u8, wrap_u16, wrap_u32, wrap_u64, wrap_i32, List.length_cons, List.length_nil, List.length_append, List.length_map, tmodN, tdivN]); and_intros <;> first | exact True.intro | omega | skip) ?_
    refine Runs.condS rfl (fun g11 => ?_) (fun g11 => ?_)
    · try simp only [decide_eq_true_eq, decide_eq_false_iff_not, notT, notF, beq_iff_eq, beq_eq_false_iff_ne, bne_iff_ne, bne_eq_false_iff_eq, tmodN, tdivN, Int.not_lt, Int.not_le] at g11
      refine Runs.seq ?_
      refine Runs.reg [] [] rfl (by (try simp only [wrap_i64', wrap_u8, wrap_u16, wrap_u32, wrap_u64, wrap_i32, List.length_cons, List.length_nil, List.length_append, List.length_map, tmodN, tdivN]); and_intros <;> first | exact True.intro | omega | skip) ?_
      exact Runs.frame [(2, .sl 1 0 (strEl []) true), (3, .bool false)] (by exact agree_imp rfl (by exact Imp.slEq rfl (fun i hi => absurd hi (Nat.not_lt_zero _))) rfl rfl (agree_cons rfl (by rfl) trivial)) (Runs.retH Try.func18 rfl rfl (by rw [hi.short (by omega) (by omega)]; rfl) (by rfl))
    · try simp only [decide_eq_true_eq, decide_eq_false_iff_not, notT, notF, beq_iff_eq, beq_eq_false_iff_ne, bne_iff_ne, bne_eq_false_iff_eq, tmodN, tdivN, Int.not_lt, Int.not_le] at g11
      refine Runs.skip ?_
      refine Runs.seq ?_
      refine Runs.regD [] [0, 5, 11, 17] rfl rfl rfl (by and_intros <;> first | exact True.intro | omega | decide) ?_
      refine Runs.frame [(0, .bs rest false), (4, .sl 1 out.length (strEl out) true), (5, .int .i64 (num4 rest : Nat))] (by exact agree_cons rfl (by rfl) (agree_cons rfl (by rfl) (agree_cons rfl (by exact congrArg (AV.int _) (up_or rest)) trivial))) ?_
      refine Runs.seq ?_
      refine Runs.seq ?_
      refine Runs.reg [] [0, 1] rfl (by and_intros <;> first | exact True.intro | omega | decide) ?_
      refine Runs.condS rfl (fun g38 => ?_) (fun g38 => ?_)
      · try simp only [decide_eq_true_eq, decide_eq_false_iff_not, notT, notF, beq_iff_eq, beq_eq_false_iff_ne, bne_iff_ne, bne_eq_false_iff_eq, tmodN, tdivN, Int.not_lt, Int.not_le] at g38
        rw [i64_id (by omega) (by omega)] at g38
        refine Runs.seq ?_
        refine Runs.reg [] [] rfl (by (try simp only [wrap_i64', wrap_u8, wrap_u16, wrap_u32, wrap_u64, wrap_i32, List.length_cons, List.length_nil, List.length_append, List.length_map, tmodN, tdivN]); and_intros <;> first | exact True.intro | omega | skip) ?_
        exact Runs.frame [(2, .sl 1 0 (strEl []) true), (3, .bool false)] (by exact agree_imp rfl (by exact Imp.slEq rfl (fun i hi => absurd hi (Nat.not_lt_zero _))) rfl rfl (agree_cons rfl (by rfl) trivial)) (Runs.retH Try.func18 rfl rfl (by rw [hi.far (by omega) (by omega)]; rfl) (by rfl))
      · try simp only [decide_eq_true_eq, decide_eq_false_iff_not, notT, notF, beq_iff_eq, beq_eq_false_iff_ne, bne_iff_ne, bne_eq_false_iff_eq, tmodN, tdivN, Int.not_lt, Int.not_le] at g38
        rw [i64_id (by omega) (by omega)] at g38
        refine Runs.skip ?_
        refine Runs.seq ?_
        refine Runs.reg [] [] rfl (by rw [i64_id (x := 4 + (num4 rest : Int)) (by omega) (by omega)]; and_intros <;> first | exact True.intro | omega | decide) ?_
        refine Runs.reg [] [] rfl (by rw [i64_id (x := 4 + (num4 rest : Int)) (by omega) (by omega)]; and_intros <;> first | exact True.intro | omega | decide) ?_
        refine Runs.inBlock ?_
        exact ih (rest.drop (4 + num4 rest), out ++ [(rest.drop 4).take (num4 rest)], k - 1) _ _ (by exact hi.step (by omega) (by omega)) (by simp only [List.length_drop]; omega) (by exact agree_cons rfl (by exact binj (up_drop rest _ (by omega))) (agree_imp rfl (by rw [up_take rest _ (by omega) (by omega)]; exact strs_app out _ true) rfl rfl (trivial))) (by rfl)
  · try simp only [decide_eq_true_eq, decide_eq_false_iff_not, notT, notF, beq_iff_eq, beq_eq_false_iff_ne, bne_iff_ne, bne_eq_false_iff_eq, tmodN, tdivN, Int.not_lt, Int.not_le] at g8
    refine Runs.exit rfl ?_
    refine Runs.seq ?_
    refine Runs.reg [] [0, 1, 3] rfl (by (try simp only [wrap_i64', wrap_u8, wrap_u16, wrap_u32, wrap_u64, wrap_i32, List.length_cons, List.length_nil, List.length_append, List.length_map, tmodN, tdivN]); and_intros <;> first | exact True.intro | omega | skip) ?_
    exact Runs.frame [(2, .sl 1 out.length (strEl out) true), (3, .bool true)] (by exact agree_imp rfl (by exact Imp.slEq (by simp) (fun i hi => by simp [strEl])) rfl rfl (agree_cons rfl (by rfl) trivial)) (Runs.retH Try.func18 rfl rfl (by rw [hi.done (by omega)]; rfl) (by rfl))

theorem runpack_ok (b : List UInt8) (hb : b.length ≤ 16777216) : FnOK Try.prog 21 [.bs b false] [] (.tup [.sl 1 ((unpackL b).getD []).length (strEl ((unpackL b).getD [])) false, .bool (unpackL b).isSome]) [] := by
  refine FnOK.of_runs Try.func21 rfl (Nat.le_of_ble_eq_true rfl) ?_
  refine Runs.seq ?_
  refine Runs.reg [] [] rfl (by (try simp only [wrap_i64', wrap_u8, wrap_u16, wrap_u32, wrap_u64, wrap_i32, List.length_cons, List.length_nil, List.length_append, List.length_map, tmodN, tdivN]); and_intros <;> first | exact True.intro | omega | skip) ?_
  refine Runs.seq ?_
  refine Runs.reg [] [] rfl (by (try simp only [wrap_i64', wrap_u8, wrap_u16, wrap_u32, wrap_u64, wrap_i32, List.length_cons, List.length_nil, List.length_append, List.length_map, tmodN, tdivN]); and_intros <;> first | exact True.intro | omega | skip) ?_
  refine Runs.seq ?_
  refine Runs.reg [] [] rfl (by (try simp only [wrap_i64', wrap_u8, wrap_u16, wrap_u32, wrap_u64, wrap_i32, List.length_cons, List.length_nil, List.length_append, List.length_map, tmodN, tdivN]); and_intros <;> first | exact True.intro | omega | skip) ?_
  refine Runs.seq ?_
  refine Runs.block ?_
  -- loop 0
  refine Runs.loopF (σ := Nat × List (List UInt8) × Nat) (fun p => UpI b (b.drop p.1) p.2.1 p.2.2 ∧ p.1 ≤ b.length) (fun p => [(0, .bs b false), (4, .sl 1 p.2.1.length (strEl p.2.1) true), (5, .int .i64 p.1)]) (fun _ => []) (fun p => b.length - p.1) ((0, [], b.length)) (by exact ⟨by simpa using UpI.start b, Nat.zero_le _⟩) (by exact agree_cons rfl (by first | with_reducible rfl | (refine congrArg (AV.int _) ?_; (try simp only [wrap_i64', wrap_u8, wrap_u16, wrap_u32, wrap_u64, wrap_i32, List.length_cons, List.length_nil, List.length_append, List.length_map, tmodN, tdivN]); omega) | rfl | skip) (agree_imp rfl (by exact Imp.slEq rfl (fun i hi => absurd hi (Nat.not_lt_zero _))) rfl rfl (agree_cons rfl (by first | with_reducible rfl | (refine congrArg (AV.int _) ?_; (try simp only [wrap_i64', wrap_u8, wrap_u16, wrap_u32, wrap_u64, wrap_i32, List.length_cons, List.length_nil, List.length_append, List.length_map, tmodN, tdivN]); omega) | rfl | skip) (trivial)))) (by rfl) (fun ⟨i, out, k⟩ hi ih => ?_)
  have hil : i ≤ b.length := hi.2; replace hi : UpI b (b.drop i) out k := hi.1; have hle := hi.sum; have hnl := num4_lt (b.drop i); rw [List.length_drop] at hle; dsimp only
  refine Runs.seq ?_
  refine Runs.seq ?_
  refine Runs.reg [] [0, 1] rfl (by (try simp only [wrap_i64', wrap_u8, wrap_u16, wrap_u32, wrap_u64, wrap_i32, List.length_cons, List.length_nil, List.length_append, List.length_map, tmodN, tdivN]); and_intros <;> first | exact True.intro | omega | skip) ?_
  refine Runs.condS rfl (fun g10 => ?_) (fun g10 => ?_)
  · try simp only [decide_eq_true_eq, decide_eq_false_iff_not, notT, notF, beq_iff_eq, beq_eq_false_iff_ne, bne_iff_ne, bne_eq_false_iff_eq, tmodN, tdivN, Int.not_lt, Int.not_le] at g10
    refine Runs.skip ?_
    refine Runs.block ?_
    refine Runs.seq ?_
    refine Runs.seq ?_
    refine Runs.reg [] [0, 2] rfl (by (try simp only [wrap_i64', wrap_u8, wrap_u16, wrap_u32, wrap_u64, wrap_i32, List.length_cons, List.length_nil, List.length_append, List.length_map, tmodN, tdivN]); and_intros <;> first | exact True.intro | omega | skip) ?_
    refine Runs.condS rfl (fun g15 => ?_) (fun g15 => ?_)
    · try simp only [decide_eq_true_eq, decide_eq_false_iff_not, notT, notF, beq_iff_eq, beq_eq_false_iff_ne, bne_iff_ne, bne_eq_false_iff_eq, tmodN, tdivN, Int.not_lt, Int.not_le] at g15
      rw [i64_id (by omega) (by omega)] at g15
      refine Runs.seq ?_
      refine Runs.reg [] [] rfl (by (try simp only [wrap_i64', wrap_u8, wrap_u16, wrap_u32, wrap_u64, wrap_i32, List.length_cons, List.length_nil, List.length_append, List.length_map, tmodN, tdivN]); and_intros <;> first | exact True.intro | omega | skip) ?_
      exact Runs.frame [(2, .sl 1 0 (strEl []) true), (3, .bool false)] (by exact agree_imp rfl (by exact Imp.slEq rfl (fun i hi => absurd hi (Nat.not_lt_zero _))) rfl rfl (agree_cons rfl (by rfl) trivial)) (Runs.retH Try.func21 rfl rfl (by rw [hi.short (by rw [List.length_drop]; omega) (by rw [List.length_drop]; omega)]; rfl) (by rfl))
    · try simp only [decide_eq_true_eq, decide_eq_false_iff_not, notT, notF, beq_iff_eq, beq_eq_false_iff_ne, bne_iff_ne, bne_eq_false_iff_eq, tmodN, tdivN, Int.not_lt, Int.not_le] at g15
      rw [i64_id (by omega) (by omega)] at g15
      refine Runs.skip ?_
      refine Runs.seq ?_
      refine Runs.regD [] [0, 1, 6, 7, 14, 15, 22, 23] rfl rfl rfl (by rw [i64_id (x := (i : Int) + 1) (by omega) (by omega), i64_id (x := (i : Int) + 2) (by omega) (by omega), i64_id (x := (i : Int) + 3) (by omega) (by omega)]; and_intros <;> first | exact True.intro | omega | decide) ?_
      refine Runs.frame [(0, .bs b false), (4, .sl 1 out.length (strEl out) true), (5, .int .i64 i), (6, .int .i64 (num4 (b.drop i) : Nat))] (by exact agree_cons rfl (by rfl) (agree_cons rfl (by rfl) (agree_cons rfl (by rfl) (agree_cons rfl (by exact congrArg (AV.int _) (up_add b i (by omega))) trivial)))) ?_
      refine Runs.seq ?_
      refine Runs.reg [] [] rfl (by (try simp only [wrap_i64', wrap_u8, wrap_u16, wrap_u32, wrap_u64, wrap_i32, List.length_cons, List.length_nil, List.length_append, List.length_map, tmodN, tdivN]); and_intros <;> first | exact True.intro | omega | skip) ?_
      refine Runs.frame [(0, .bs b false), (4, .sl 1 out.length (strEl out) true), (5, .int .i64 (i + 4 : Nat)), (6, .int .i64 (num4 (b.drop i) : Nat))] (by exact agree_cons rfl (by rfl) (agree_cons rfl (by rfl) (agree_cons rfl (by rw [i64_id (by omega) (by omega)]; rfl) (agree_cons rfl (by rfl) trivial)))) ?_
      refine Runs.seq ?_
      refine Runs.seq ?_
      refine Runs.reg [] [0, 1, 3] rfl (by (try simp only [wrap_i64', wrap_u8, wrap_u16, wrap_u32, wrap_u64, wrap_i32, List.length_cons, List.length_nil, List.length_append, List.length_map, tmodN, tdivN]); and_intros <;> first | exact True.intro | omega | skip) ?_
      refine Runs.condS rfl (fun g52 => ?_) (fun g52 => ?_)
      · try simp only [decide_eq_true_eq, decide_eq_false_iff_not, notT, notF, beq_iff_eq, beq_eq_false_iff_ne, bne_iff_ne, bne_eq_false_iff_eq, tmodN, tdivN, Int.not_lt, Int.not_le] at g52
        rw [i64_id (by omega) (by omega)] at g52
        refine Runs.seq ?_
        refine Runs.reg [] [] rfl (by (try simp only [wrap_i64', wrap_u8, wrap_u16, wrap_u32, wrap_u64, wrap_i32, List.length_cons, List.length_nil, List.length_append, List.length_map, tmodN, tdivN]); and_intros <;> first | exact True.intro | omega | skip) ?_
        exact Runs.frame [(2, .sl 1 0 (strEl []) true), (3, .bool false)] (by exact agree_imp rfl (by exact Imp.slEq rfl (fun i hi => absurd hi (Nat.not_lt_zero _))) rfl rfl (agree_cons rfl (by rfl) trivial)) (Runs.retH Try.func21 rfl rfl (by rw [hi.far (by rw [List.length_drop]; omega) (by rw [List.length_drop]; omega)]; rfl) (by rfl))
      · try simp only [decide_eq_true_eq, decide_eq_false_iff_not, notT, notF, beq_iff_eq, beq_eq_false_iff_ne, bne_iff_ne, bne_eq_false_iff_eq, tmodN, tdivN, Int.not_lt, Int.not_le] at g52
        rw [i64_id (by omega) (by omega)] at g52
        refine Runs.skip ?_
        refine Runs.seq ?_
        refine Runs.reg [] [2, 3] rfl (by rw [i64_id (by omega) (by omega)]; and_intros <;> first | exact True.intro | omega | decide) ?_
        refine Runs.reg [] [1] rfl (by (try simp only [wrap_i64', wrap_u8, wrap_u16, wrap_u32, wrap_u64, wrap_i32, List.length_cons, List.length_nil, List.length_append, List.length_map, tmodN, tdivN]); and_intros <;> first | exact True.intro | omega | skip) ?_
        refine Runs.inBlock ?_
        exact ih (i + 4 + num4 (b.drop i), out ++ [((b.drop i).drop 4).take (num4 (b.drop i))], k - 1) _ _ (by have hs := hi.step (by rw [List.length_drop]; omega) (by rw [List.length_drop]; omega); rw [List.drop_drop, show i + (4 + num4 (b.drop i)) = i + 4 + num4 (b.drop i) by omega] at hs; exact ⟨hs, by simp only; omega⟩) (by simp only; omega) (by exact agree_cons rfl (by first | with_reducible rfl | (refine congrArg (AV.int _) ?_; (try simp only [wrap_i64', wrap_u8, wrap_u16, wrap_u32, wrap_u64, wrap_i32, List.length_cons, List.length_nil, List.length_append, List.length_map, tmodN, tdivN]); omega) | rfl | skip) (agree_imp rfl (by rw [up_cut b i _ (by omega) hnl]; exact strs_app out _ true) rfl rfl (agree_cons rfl (by rw [i64_id (by omega) (by omega)]; refine congrArg (AV.int _) ?_; simp only; omega) (trivial)))) (by rfl)
  · try simp only [decide_eq_true_eq, decide_eq_false_iff_not, notT, notF, beq_iff_eq, beq_eq_false_iff_ne, bne_iff_ne, bne_eq_false_iff_eq, tmodN, tdivN, Int.not_lt, Int.not_le] at g10
    refine Runs.exit rfl ?_
    refine Runs.seq ?_
    refine Runs.reg [] [0] rfl (by (try simp only [wrap_i64', wrap_u8, wrap_u16, wrap_u32, wrap_u64, wrap_i32, List.length_cons, List.length_nil, List.length_append, List.length_map, tmodN, tdivN]); and_intros <;> first | exact True.intro | omega | skip) ?_
    exact Runs.retH Try.func21 rfl rfl (by rw [hi.done (by rw [List.length_drop]; omega)]; rfl) (by rfl)

end Go.Proofs.Ytfkpdfpnpcdhaaa
