/- contracts. -/
import Derived.Test.YtfkpdfpnpcdhaaaG6
set_option maxRecDepth 100000
set_option linter.unusedVariables false
set_option linter.unusedSimpArgs false
set_option linter.unusedSectionVars false
namespace Go.Proofs.PK
open Go Go.Am Go.Proofs
variable [LP.MM]

def HX : List UInt8 := [48, 49, 50, 51, 52, 53, 54, 55, 56, 57, 97, 98, 99, 100, 101, 102]
def hxd (d : Nat) : UInt8 := HX.getD d 0
def hexL (b : List UInt8) : List UInt8 := b.flatMap fun c => [hxd (c.toNat / 16), hxd (c.toNat % 16)]
def hv (c : UInt8) : Option Nat := if 48 ≤ c.toNat ∧ c.toNat ≤ 57 then some (c.toNat - 48) else if 97 ≤ c.toNat ∧ c.toNat ≤ 102 then some (c.toNat - 87) else none
def unhexL : List UInt8 → Option (List UInt8)
  | [] => some []
  | [_] => none
  | a :: b :: r => match hv a, hv b, unhexL r with
    | some x, some y, some l => some (UInt8.ofNat (16 * x + y) :: l)
    | _, _, _ => none
def fnd : List UInt8 → UInt8 → Option Nat
  | [], _ => none
  | x :: r, c => if x = c then some 0 else (fnd r c).map (· + 1)
def fndI (s : List UInt8) (c : UInt8) : Int := match fnd s c with
  | some i => i
  | none => -1
theorem hexL_length (b : List UInt8) : (hexL b).length = 2 * b.length := by
  induction b with
  | nil => rfl
  | cons x xs ih => simp [hexL, List.flatMap_cons] at *; omega
theorem rdigit_eq (d : Nat) (h : d < 16) : (HX.take ((d : Int) + 1).toNat).drop (d : Int).toNat = [hxd d] := by
  have : ∀ d : Fin 16, (HX.take ((d.val : Int) + 1).toNat).drop (d.val : Int).toNat = [hxd d.val] := by decide
  exact this ⟨d, h⟩
theorem shr4 (x : Nat) : (x : Int).fdiv (2 ^ min (Int.toNat 4) IntKind.u8.bits) = ((x / 16 : Nat) : Int) := by
  show (x : Int).fdiv 16 = _
  rw [Int.fdiv_eq_ediv_of_nonneg _ (by decide)]; rfl
theorem and15 (c : UInt8) : bitsE .and .u8 (c.toNat : Int) 15 = ((c.toNat % 16 : Nat) : Int) := by
  have := (Go.Am.bits_nat .u8 (a := c.toNat) (b := 15) c.toNat_lt (by decide) rfl).1
  rw [show ((15 : Nat) : Int) = 15 from rfl] at this
  rw [this, show c.toNat &&& 15 = c.toNat % 16 from Nat.and_two_pow_sub_one_eq_mod c.toNat 4]
theorem u8b (c : UInt8) : (0 : Int) ≤ (c.toNat : Int) ∧ (c.toNat : Int) < 256 := by have := c.toNat_lt; omega
theorem toB_u8 (c : UInt8) : toB (c.toNat : Int) = c := by simp [toB]
theorem toB_ofNat (n : Nat) : toB (n : Int) = UInt8.ofNat n := by simp [toB]
theorem take_succ' {α : Type} (b : List α) (i : Nat) (d : α) (h : i < b.length) : b.take (i + 1) = b.take i ++ [b.getD i d] := by
  rw [List.take_add_one, List.getD_eq_getElem?_getD, List.getElem?_eq_getElem h]; rfl
theorem hex_step (b : List UInt8) (i : Nat) (h : i < b.length) : hexL (b.take i) ++ List.map toB [((HX.getD (((b.getD (i : Int).toNat 0).toNat / 16 : Nat) : Int).toNat 0).toNat : Int), ((HX.getD (((b.getD (i : Int).toNat 0).toNat % 16 : Nat) : Int).toNat 0).toNat : Int)] = hexL (b.take (i + 1)) := by
  rw [take_succ' b i 0 h]
  simp only [Int.toNat_natCast]
  simp [hexL, List.flatMap_append, toB_u8, hxd]
theorem rhex_step (b : List UInt8) (i : Nat) (h : i < b.length) : hexL (b.take i) ++ [hxd ((b.getD (i : Int).toNat 0).toNat / 16)] ++ [hxd ((b.getD (i : Int).toNat 0).toNat % 16)] = hexL (b.take (i + 1)) := by
  rw [take_succ' b i 0 h]
  simp only [Int.toNat_natCast]
  simp [hexL, List.flatMap_append]
theorem quo16 (c : UInt8) : IntKind.i64.wrap ((IntKind.i64.wrap (c.toNat : Int)).tdiv 16) = ((c.toNat / 16 : Nat) : Int) := by
  have := c.toNat_lt
  rw [i64_id (x := (c.toNat : Int)) (by omega) (by omega), show (16 : Int) = ((16 : Nat) : Int) from rfl, ← Int.ofNat_tdiv, i64_id (by omega) (by omega)]
theorem rem16 (c : UInt8) : (IntKind.i64.wrap (c.toNat : Int)).tmod 16 = ((c.toNat % 16 : Nat) : Int) := by
  have := c.toNat_lt
  rw [i64_id (x := (c.toNat : Int)) (by omega) (by omega)]; rfl
theorem hv_lt {c : UInt8} {x : Nat} (h : hv c = some x) : x < 16 := by
  unfold hv at h
  split at h
  · simp at h; omega
  · split at h
    · simp at h; omega
    · simp at h
theorem or4 {x y : Nat} (hx : x < 16) (hy : y < 16) : bitsE .or .u8 (IntKind.u8.wrap ((x : Int) * 2 ^ min (Int.toNat 4) IntKind.u8.bits)) (y : Int) = ((16 * x + y : Nat) : Int) := by
  have e : IntKind.u8.wrap ((x : Int) * 2 ^ min (Int.toNat 4) IntKind.u8.bits) = ((16 * x : Nat) : Int) := by
    show IntKind.u8.wrap ((x : Int) * 16) = _
    rw [wrap_u8]; omega
  rw [e, (Go.Am.bits_nat .u8 (a := 16 * x) (b := y) (show 16 * x < 256 by omega) (show y < 256 by omega) rfl).2.1]
  have := Nat.two_pow_add_eq_or_of_lt (i := 4) hy x
  rw [show (2 : Nat) ^ 4 = 16 from rfl] at this
  rw [this]
theorem drop2 (s : List UInt8) (i : Nat) (h : i + 1 < s.length) : s.drop i = s.getD i 0 :: s.getD (i + 1) 0 :: s.drop (i + 2) := by
  rw [List.drop_eq_getElem_cons (by omega : i < s.length), List.drop_eq_getElem_cons (by omega : i + 1 < s.length)]
  simp [List.getD_eq_getElem?_getD, List.getElem?_eq_getElem h, List.getElem?_eq_getElem (by omega : i < s.length)]
/-- so far -/
structure UnI (s : List UInt8) (i : Nat) (out : List UInt8) : Prop where
  le : i ≤ s.length
  ev : i % 2 = 0
  evs : s.length % 2 = 0
  len : out.length = i / 2
  eq : unhexL s = (unhexL (s.drop i)).map (out ++ ·)
theorem UnI.none1 {s i out} (h : UnI s i out) (hi : i < s.length) (e : hv (s.getD i 0) = none) : unhexL s = none := by
  have := h.ev; have := h.evs
  rw [h.eq, drop2 s i (by omega), unhexL, e]; rfl
theorem UnI.none2 {s i out} (h : UnI s i out) (hi : i < s.length) (e : hv (s.getD (i + 1) 0) = none) : unhexL s = none := by
  have := h.ev; have := h.evs
  rw [h.eq, drop2 s i (by omega), unhexL, e]
  cases hv (s.getD i 0) <;> rfl
theorem UnI.step {s i out x y} (h : UnI s i out) (hi : i < s.length) (e1 : hv (s.getD i 0) = some x) (e2 : hv (s.getD (i + 1) 0) = some y) : UnI s (i + 2) (out ++ [UInt8.ofNat (16 * x + y)]) := by
  have h1 := h.ev; have h2 := h.evs; have h3 := h.len
  refine ⟨by omega, by omega, h2, by simp; omega, ?_⟩
  rw [h.eq, drop2 s i (by omega), unhexL, e1, e2]
  cases unhexL (s.drop (i + 2)) <;> simp
theorem UnI.done {s i out} (h : UnI s i out) (hi : s.length ≤ i) : unhexL s = some out := by
  rw [h.eq, List.drop_eq_nil_of_le hi, unhexL]; simp
theorem UnI.start {s : List UInt8} (h : s.length % 2 = 0) : UnI s 0 [] := ⟨by omega, rfl, h, rfl, by simp⟩
theorem unhex_odd : ∀ {s : List UInt8}, s.length % 2 = 1 → unhexL s = none
  | [], h => by simp at h
  | [_], h => rfl
  | a :: b :: r, h => by
    rw [unhexL, unhex_odd (s := r) (by simp at h; omega)]
    cases hv a <;> cases hv b <;> rfl
theorem fnd_hv (c : UInt8) : fnd HX c = hv c := by
  have : ∀ n : Fin 256, fnd HX (UInt8.ofNat n.val) = hv (UInt8.ofNat n.val) := by decide
  have h := this ⟨c.toNat, c.toNat_lt⟩
  simpa using h
structure FdI (s : List UInt8) (c : UInt8) (i : Nat) : Prop where
  le : i ≤ s.length
  eq : fnd s c = (fnd (s.drop i) c).map (· + i)
theorem FdI.hit {s c i} (h : FdI s c i) (hi : i < s.length) (e : s.getD i 0 = c) : fndI s c = i := by
  unfold fndI
  rw [h.eq, List.drop_eq_getElem_cons hi, fnd]
  rw [List.getD_eq_getElem?_getD, List.getElem?_eq_getElem hi] at e
  simp at e
  simp [e]
theorem FdI.step {s c i} (h : FdI s c i) (hi : i < s.length) (e : s.getD i 0 ≠ c) : FdI s c (i + 1) := by
  refine ⟨by omega, ?_⟩
  rw [h.eq, List.drop_eq_getElem_cons hi, fnd]
  rw [List.getD_eq_getElem?_getD, List.getElem?_eq_getElem hi] at e
  simp at e
  rw [if_neg e, Option.map_map]
  congr 1; funext x; simp; omega
theorem FdI.done {s c i} (h : FdI s c i) (hi : s.length ≤ i) : fndI s c = -1 := by
  unfold fndI
  rw [h.eq, List.drop_eq_nil_of_le hi]; rfl
theorem fndI_hv (c : UInt8) : fndI HX c = match hv c with | some x => (x : Int) | none => -1 := by unfold fndI; rw [fnd_hv]
theorem fnd_some {c : UInt8} (h : 0 ≤ fndI HX c) : ∃ x, hv c = some x := by
  rw [fndI_hv] at h
  cases e : hv c with
  | none => rw [e] at h; simp at h
  | some x => exact ⟨x, rfl⟩
theorem fnd_none {c : UInt8} (h : fndI HX c < 0) : hv c = none := by
  rw [fndI_hv] at h
  cases e : hv c with
  | none => rfl
  | some x => rw [e] at h; simp only at h; omega
theorem i1 (i : Nat) (h : i ≤ 16777216) : (IntKind.i64.wrap ((i : Int) + 1)).toNat = i + 1 := by rw [i64_id (by omega) (by omega)]; omega
theorem u16xy {x y : Nat} (hx : x < 16) (hy : y < 16) : IntKind.u8.wrap (IntKind.i64.wrap (IntKind.i64.wrap (16 * (x : Int)) + (y : Int))) = ((16 * x + y : Nat) : Int) := by
  rw [i64_id (x := 16 * (x : Int)) (by omega) (by omega), i64_id (by omega) (by omega), u8_id (by omega) (by omega)]; omega

theorem rdigit_ok (d : Nat) (h : d < 16) : FnOK Try.prog 40 [.int .i64 d] [] (.str [hxd d]) [] := by
  refine FnOK.of_runs Try.func40 rfl (Nat.le_of_ble_eq_true rfl) ?_
  refine Runs.seq ?_
  refine Runs.reg [] [] rfl (by (try simp only [wrap_i64', wrap_u8, wrap_u16, wrap_u32, wrap_u64, wrap_i32, List.length_cons, List.length_nil, List.length_append, List.length_map, tmodN, tdivN]); and_intros <;> first | exact True.intro | omega | skip) ?_
  refine Runs.seq ?_
  refine Runs.reg [] [0, 1] rfl (by (try simp only [wrap_i64', wrap_u8, wrap_u16, wrap_u32, wrap_u64, wrap_i32, List.length_cons, List.length_nil, List.length_append, List.length_map, tmodN, tdivN]); and_intros <;> first | exact True.intro | omega | skip) ?_
  exact Runs.retH Try.func40 rfl rfl (by rw [i64_id (by omega) (by omega)]; exact congrArg AV.str (rdigit_eq d h)) (by rfl)


def decF : List UInt8 → Nat → Option Nat
  | [], n => some n
  | c :: r, n => if 48 ≤ c.toNat ∧ c.toNat ≤ 57 then decF r (10 * n + (c.toNat - 48)) else none
def intF (s : List UInt8) : Option Nat := if s.length < 1 ∨ 18 < s.length ∨ (1 < s.length ∧ (s.getD 0 0).toNat = 48) then none else decF s 0
structure DecI (s : List UInt8) (i n : Nat) : Prop where
  le : i ≤ s.length
  le18 : s.length ≤ 18
  lt : n < 10 ^ i
  eq : decF s 0 = decF (s.drop i) n
theorem DecI.n17 {s i n} (h : DecI s i n) (hi : i < s.length) : n < 100000000000000000 := by
  have h1 := h.le18
  exact Nat.lt_of_lt_of_le h.lt (Nat.pow_le_pow_right (n := 10) (by decide) (show i ≤ 17 by omega))
theorem DecI.n18 {s i n} (h : DecI s i n) : n < 1000000000000000000 := by
  have h1 := h.le18; have h2 := h.le
  exact Nat.lt_of_lt_of_le h.lt (Nat.pow_le_pow_right (n := 10) (by decide) (show i ≤ 18 by omega))
theorem DecI.bad {s i n} (h : DecI s i n) (hi : i < s.length) (hc : ¬ (48 ≤ (s.getD i 0).toNat ∧ (s.getD i 0).toNat ≤ 57)) : decF s 0 = none := by
  rw [h.eq, List.drop_eq_getElem_cons hi, decF]
  have : s[i] = s.getD i 0 := by rw [List.getD_eq_getElem?_getD, List.getElem?_eq_getElem hi]; rfl
  rw [this, if_neg hc]
theorem DecI.step {s i n} (h : DecI s i n) (hi : i < s.length) (hc : 48 ≤ (s.getD i 0).toNat ∧ (s.getD i 0).toNat ≤ 57) : DecI s (i + 1) (10 * n + ((s.getD i 0).toNat - 48)) := by
  refine ⟨by omega, h.le18, ?_, ?_⟩
  · have := h.lt
    rw [Nat.pow_succ]; omega
  · rw [h.eq, List.drop_eq_getElem_cons hi, decF]
    have : s[i] = s.getD i 0 := by rw [List.getD_eq_getElem?_getD, List.getElem?_eq_getElem hi]; rfl
    rw [this, if_pos hc]
theorem DecI.done {s i n} (h : DecI s i n) (hi : s.length ≤ i) : decF s 0 = some n := by
  rw [h.eq, List.drop_eq_nil_of_le hi, decF]
theorem intF_none {s : List UInt8} (h : s.length < 1 ∨ 18 < s.length ∨ (1 < s.length ∧ (s.getD 0 0).toNat = 48)) : intF s = none := if_pos h
theorem intF_dec {s : List UInt8} (h : ¬ (s.length < 1 ∨ 18 < s.length ∨ (1 < s.length ∧ (s.getD 0 0).toNat = 48))) : intF s = decF s 0 := if_neg h


def be4 (n : Nat) : List UInt8 := [UInt8.ofNat (n / 16777216), UInt8.ofNat (n / 65536), UInt8.ofNat (n / 256), UInt8.ofNat n]
def packL (l : List (List UInt8)) : List UInt8 := l.flatMap fun s => be4 s.length ++ s
abbrev strEl (l : List (List UInt8)) : Nat → AV := fun i => .str (l.getD i [])
theorem packL_snoc (l : List (List UInt8)) (s : List UInt8) : packL (l ++ [s]) = packL l ++ be4 s.length ++ s := by simp [packL, List.flatMap_append]
theorem packL_app (l r : List (List UInt8)) : packL (l ++ r) = packL l ++ packL r := by simp [packL, List.flatMap_append]
theorem packL_take (l : List (List UInt8)) (i : Nat) (h : i < l.length) : packL (l.take (i + 1)) = packL (l.take i) ++ be4 (l.getD i []).length ++ l.getD i [] := by
  rw [take_succ' l i [] h, packL_snoc]
theorem packL_le (l : List (List UInt8)) (i : Nat) : (packL (l.take i)).length ≤ (packL l).length := by
  have := congrArg List.length (packL_app (l.take i) (l.drop i))
  rw [List.take_append_drop, List.length_append] at this; omega
theorem packL_len1 (l : List (List UInt8)) (i : Nat) (h : i < l.length) : (packL (l.take (i + 1))).length = (packL (l.take i)).length + (4 + (l.getD i []).length) := by
  rw [packL_take l i h]; simp [be4]; omega
theorem shr24 (n : Nat) : (n : Int).fdiv (2 ^ min (Int.toNat 24) IntKind.i64.bits) = ((n / 16777216 : Nat) : Int) := by
  show (n : Int).fdiv 16777216 = _
  rw [Int.fdiv_eq_ediv_of_nonneg _ (by decide)]; rfl
theorem shr16 (n : Nat) : (n : Int).fdiv (2 ^ min (Int.toNat 16) IntKind.i64.bits) = ((n / 65536 : Nat) : Int) := by
  show (n : Int).fdiv 65536 = _
  rw [Int.fdiv_eq_ediv_of_nonneg _ (by decide)]; rfl
theorem shr8 (n : Nat) : (n : Int).fdiv (2 ^ min (Int.toNat 8) IntKind.i64.bits) = ((n / 256 : Nat) : Int) := by
  show (n : Int).fdiv 256 = _
  rw [Int.fdiv_eq_ediv_of_nonneg _ (by decide)]; rfl
theorem toB_mod (n : Nat) : toB ((n : Int) % 256) = UInt8.ofNat n := by
  unfold toB
  apply UInt8.toNat_inj.1
  simp only [UInt8.toNat_ofNat']
  omega
theorem pack_bytes (n : Nat) : List.map toB [IntKind.u8.wrap ((n / 16777216 : Nat) : Int), IntKind.u8.wrap ((n / 65536 : Nat) : Int), IntKind.u8.wrap ((n / 256 : Nat) : Int), IntKind.u8.wrap (n : Int)] = be4 n := by
  simp only [wrap_u8, List.map_cons, List.map_nil, toB_mod, be4]
theorem inj {a b : List UInt8} {o : Bool} (h : a = b) : AV.bs a o = AV.bs b o := by rw [h]
theorem sinj {a b : List UInt8} (h : a = b) : AV.str a = AV.str b := by rw [h]
def put64L (n : Nat) : List UInt8 := (List.range 8).map fun k => UInt8.ofNat (n / 2 ^ (56 - 8 * k))
def putBlk (n i : Nat) : List AV := (List.range 8).map fun k => .int .u8 (if k < i then ((UInt8.ofNat (n / 2 ^ (56 - 8 * k))).toNat : Int) else 0)
theorem putBlk_set (n i : Nat) (h : i < 8) : (putBlk n i).set i (.int .u8 (UInt8.ofNat (n / 2 ^ (56 - 8 * i))).toNat) = putBlk n (i + 1) := by
  apply List.ext_getElem?
  intro k
  simp only [putBlk, List.getElem?_set, List.getElem?_map, List.length_map, List.length_range]
  by_cases hk : k < 8
  · rw [List.getElem?_range hk]
    by_cases e : i = k
    · subst e; simp [h]
    · rw [if_neg e]
      simp only [Option.map_some]
      by_cases h1 : k < i
      · rw [if_pos h1, if_pos (by omega)]
      · rw [if_neg h1, if_neg (by omega)]
  · have : (List.range 8)[k]? = none := by simp; omega
    rw [this]
    by_cases e : i = k
    · omega
    · simp [e]
theorem put_done (n i : Nat) (h1 : i ≤ 8) (h2 : 8 ≤ i) : List.take 8 (List.drop 0 (putBlk n i)) = (put64L n).map fun c => .int .u8 c.toNat := by
  have : i = 8 := by omega
  subst this
  rw [List.drop_zero, List.take_of_length_le (by simp [putBlk])]
  unfold putBlk put64L
  rw [List.map_map]
  refine List.map_congr_left fun k hk => ?_
  simp only [Function.comp, if_pos (List.mem_range.1 hk)]
theorem u8mod (n : Nat) : IntKind.u8.wrap (n : Int) = ((UInt8.ofNat n).toNat : Int) := by rw [wrap_u8]; simp
theorem put_val (n i : Nat) (h : i < 8) : IntKind.u8.wrap ((n : Int).fdiv (2 ^ min (IntKind.i64.wrap (56 - IntKind.i64.wrap (8 * (i : Int)))).toNat IntKind.u64.bits)) = ((UInt8.ofNat (n / 2 ^ (56 - 8 * i))).toNat : Int) := by
  have e : (IntKind.i64.wrap (56 - IntKind.i64.wrap (8 * (i : Int)))).toNat = 56 - 8 * i := by
    rw [i64_id (x := 8 * (i : Int)) (by omega) (by omega), i64_id (by omega) (by omega)]; omega
  have e2 : min (56 - 8 * i) IntKind.u64.bits = 56 - 8 * i := Nat.min_eq_left (by show _ ≤ 64; omega)
  rw [e, e2, Int.fdiv_eq_ediv_of_nonneg _ (by exact_mod_cast Nat.zero_le (2 ^ (56 - 8 * i))), show ((n : Int) / 2 ^ (56 - 8 * i)) = ((n / 2 ^ (56 - 8 * i) : Nat) : Int) by push_cast; rfl, u8mod]


theorem shr24u (n : Nat) : (n : Int).fdiv (2 ^ min (Int.toNat 24) IntKind.u32.bits) = ((n / 16777216 : Nat) : Int) := by
  show (n : Int).fdiv 16777216 = _
  rw [Int.fdiv_eq_ediv_of_nonneg _ (by decide)]; rfl
theorem shr16u (n : Nat) : (n : Int).fdiv (2 ^ min (Int.toNat 16) IntKind.u32.bits) = ((n / 65536 : Nat) : Int) := by
  show (n : Int).fdiv 65536 = _
  rw [Int.fdiv_eq_ediv_of_nonneg _ (by decide)]; rfl
theorem shr8u (n : Nat) : (n : Int).fdiv (2 ^ min (Int.toNat 8) IntKind.u32.bits) = ((n / 256 : Nat) : Int) := by
  show (n : Int).fdiv 256 = _
  rw [Int.fdiv_eq_ediv_of_nonneg _ (by decide)]; rfl
theorem shr32u (n : Nat) : (n : Int).fdiv (2 ^ min (Int.toNat 32) IntKind.u64.bits) = ((n / 4294967296 : Nat) : Int) := by
  show (n : Int).fdiv 4294967296 = _
  rw [Int.fdiv_eq_ediv_of_nonneg _ (by decide)]; rfl
theorem u32mod (n : Nat) : IntKind.u32.wrap (n : Int) = ((n % 4294967296 : Nat) : Int) := by rw [wrap_u32]; omega
theorem put_be4 (n : Nat) (h : n < 18446744073709551616) : be4 (n / 4294967296 % 4294967296) ++ be4 (n % 4294967296) = put64L n := by
  have e : put64L n = [UInt8.ofNat (n / 72057594037927936), UInt8.ofNat (n / 281474976710656), UInt8.ofNat (n / 1099511627776), UInt8.ofNat (n / 4294967296), UInt8.ofNat (n / 16777216), UInt8.ofNat (n / 65536), UInt8.ofNat (n / 256), UInt8.ofNat (n / 1)] := rfl
  rw [e]
  have c : ∀ a b : Nat, a % 256 = b % 256 → UInt8.ofNat a = UInt8.ofNat b := fun a b h => by
    apply UInt8.toNat_inj.1
    simpa using h
  simp only [be4, List.cons_append, List.nil_append]
  rw [c _ (n / 72057594037927936) (by omega), c (n / 4294967296 % 4294967296 / 65536) (n / 281474976710656) (by omega), c (n / 4294967296 % 4294967296 / 256) (n / 1099511627776) (by omega), c (n / 4294967296 % 4294967296) (n / 4294967296) (by omega),
    c (n % 4294967296 / 16777216) (n / 16777216) (by omega), c (n % 4294967296 / 65536) (n / 65536) (by omega), c (n % 4294967296 / 256) (n / 256) (by omega), c (n % 4294967296) (n / 1) (by omega)]
structure SmI (a b : List (List UInt8)) (i : Nat) : Prop where
  le : i ≤ a.length
  len : a.length = b.length
  eq : a.take i = b.take i
theorem sm_len {a b : List (List UInt8)} (h : (a.length : Int) ≠ (b.length : Int)) : (a == b) = false := by
  rw [beq_eq_false_iff_ne]
  rintro rfl
  exact h rfl
theorem SmI.ne {a b i} (h : SmI a b i) (hi : i < a.length) (hn : a.getD i [] ≠ b.getD i []) : (a == b) = false := by
  rw [beq_eq_false_iff_ne]
  rintro rfl
  exact hn rfl
theorem SmI.step {a b i} (h : SmI a b i) (hi : i < a.length) (hn : a.getD i [] = b.getD i []) : SmI a b (i + 1) := by
  have := h.len
  exact ⟨by omega, h.len, by rw [take_succ' a i [] hi, take_succ' b i [] (by omega), h.eq, hn]⟩
theorem SmI.done {a b i} (h : SmI a b i) (hi : a.length ≤ i) : (a == b) = true := by
  have h1 := h.eq
  have := h.len
  rw [List.take_of_length_le hi, List.take_of_length_le (by omega)] at h1
  rw [h1]; simp

theorem four_ok (n : Nat) : FnOK Try.prog 42 [.int .u32 n] [] (.bs (be4 n) false) [] := by
  refine FnOK.of_runs Try.func42 rfl (Nat.le_of_ble_eq_true rfl) ?_
  refine Runs.seq ?_
  refine Runs.reg [] [] rfl (by (try simp only [wrap_i64', wrap_u8, wrap_u16, wrap_u32, wrap_u64, wrap_i32, List.length_cons, List.length_nil, List.length_append, List.length_map, tmodN, tdivN]); and_intros <;> first | exact True.intro | omega | skip) ?_
  refine Runs.seq ?_
  refine Runs.reg [] [0, 3, 6, 9] rfl (by rw [shr24u, shr16u, shr8u]; and_intros <;> first | exact True.intro | decide | (intro z hz; simp only [List.mem_cons, List.not_mem_nil, or_false, wrap_u8] at hz; omega)) ?_
  exact Runs.retH Try.func42 rfl rfl (by rw [shr24u, shr16u, shr8u, pack_bytes]) (by rfl)

theorem rpack_ok (l : List (List UInt8)) (hl : l.length ≤ 16777216) (hb : (packL l).length ≤ 8388608) : FnOK Try.prog 20 [.sl 1 l.length (strEl l) false] [] (.bs (packL l) false) [] := by
  refine FnOK.of_runs Try.func20 rfl (Nat.le_of_ble_eq_true rfl) ?_
  refine Runs.seq ?_
  refine Runs.reg [] [] rfl (by (try simp only [wrap_i64', wrap_u8, wrap_u16, wrap_u32, wrap_u64, wrap_i32, List.length_cons, List.length_nil, List.length_append, List.length_map, tmodN, tdivN]); and_intros <;> first | exact True.intro | omega | skip) ?_
  refine Runs.seq ?_
  refine Runs.reg [] [] rfl (by (try simp only [wrap_i64', wrap_u8, wrap_u16, wrap_u32, wrap_u64, wrap_i32, List.length_cons, List.length_nil, List.length_append, List.length_map, tmodN, tdivN]); and_intros <;> first | exact True.intro | omega | skip) ?_
  refine Runs.seq ?_
  refine Runs.seq ?_
  refine Runs.reg [] [] rfl (by (try simp only [wrap_i64', wrap_u8, wrap_u16, wrap_u32, wrap_u64, wrap_i32, List.length_cons, List.length_nil, List.length_append, List.length_map, tmodN, tdivN]); and_intros <;> first | exact True.intro | omega | skip) ?_
  refine Runs.block ?_
  -- loop 0
  refine Runs.loopF (σ := Nat) (fun i => i ≤ l.length) (fun i => [(0, .sl 1 l.length (strEl l) false), (3, .bs (packL (l.take i)) true), (4, .int .i64 i)]) (fun _ => []) (fun i => l.length - i) (0) (by exact Nat.zero_le _) (by exact agree_cons rfl (by first | with_reducible rfl | (refine congrArg (AV.int _) ?_; (try simp only [wrap_i64', wrap_u8, wrap_u16, wrap_u32, wrap_u64, wrap_i32, List.length_cons, List.length_nil, List.length_append, List.length_map, tmodN, tdivN]); omega) | rfl | skip) (agree_cons rfl (by first | with_reducible rfl | (refine congrArg (AV.int _) ?_; (try simp only [wrap_i64', wrap_u8, wrap_u16, wrap_u32, wrap_u64, wrap_i32, List.length_cons, List.length_nil, List.length_append, List.length_map, tmodN, tdivN]); omega) | rfl | skip) (agree_cons rfl (by first | with_reducible rfl | (refine congrArg (AV.int _) ?_; (try simp only [wrap_i64', wrap_u8, wrap_u16, wrap_u32, wrap_u64, wrap_i32, List.length_cons, List.length_nil, List.length_append, List.length_map, tmodN, tdivN]); omega) | rfl | skip) (trivial)))) (by rfl) (fun i hi ih => ?_)
  have hp := packL_le l i; have hp1 := packL_le l (i + 1); have hp2 := packL_len1 l i
  refine Runs.seq ?_
  refine Runs.seq ?_
  refine Runs.reg [] [0, 1] rfl (by (try simp only [wrap_i64', wrap_u8, wrap_u16, wrap_u32, wrap_u64, wrap_i32, List.length_cons, List.length_nil, List.length_append, List.length_map, tmodN, tdivN]); and_intros <;> first | exact True.intro | omega | skip) ?_
  refine Runs.condS rfl (fun g8 => ?_) (fun g8 => ?_)
  · try simp only [decide_eq_true_eq, decide_eq_false_iff_not, notT, notF, beq_iff_eq, beq_eq_false_iff_ne, bne_iff_ne, bne_eq_false_iff_eq, tmodN, tdivN, Int.not_lt, Int.not_le] at g8
    refine Runs.skip ?_
    refine Runs.seq ?_
    refine Runs.block ?_
    refine Runs.seq ?_
    refine Runs.reg [(7, { res := .bs (be4 (l.getD (i : Int).toNat []).length) false })] [] rfl (by have hp2 := hp2 (by omega); rw [u32mod, Nat.mod_eq_of_lt (show (l.getD (i : Int).toNat []).length < 4294967296 by simp only [Int.toNat_natCast]; omega)]; simp only [be4, List.length_cons, List.length_nil]; and_intros <;> first | exact True.intro | omega | exact four_ok _) ?_
    refine Runs.reg [] [] rfl (by have hp2 := hp2 (by omega); simp only [be4, List.length_append, List.length_cons, List.length_nil, Int.toNat_natCast]; and_intros <;> first | exact True.intro | omega) ?_
    refine Runs.inBlock ?_
    refine Runs.reg [] [] rfl (by (try simp only [wrap_i64', wrap_u8, wrap_u16, wrap_u32, wrap_u64, wrap_i32, List.length_cons, List.length_nil, List.length_append, List.length_map, tmodN, tdivN]); and_intros <;> first | exact True.intro | omega | skip) ?_
    exact ih (i + 1) _ _ (by first | exact True.intro | omega) (by omega) (by exact agree_cons rfl (by first | with_reducible rfl | (refine congrArg (AV.int _) ?_; (try simp only [wrap_i64', wrap_u8, wrap_u16, wrap_u32, wrap_u64, wrap_i32, List.length_cons, List.length_nil, List.length_append, List.length_map, tmodN, tdivN]); omega) | rfl | skip) (agree_cons rfl (by exact inj (packL_take l i (by omega)).symm) (agree_cons rfl (by first | with_reducible rfl | (refine congrArg (AV.int _) ?_; (try simp only [wrap_i64', wrap_u8, wrap_u16, wrap_u32, wrap_u64, wrap_i32, List.length_cons, List.length_nil, List.length_append, List.length_map, tmodN, tdivN]); omega) | rfl | skip) (trivial)))) (by rfl)
  · try simp only [decide_eq_true_eq, decide_eq_false_iff_not, notT, notF, beq_iff_eq, beq_eq_false_iff_ne, bne_iff_ne, bne_eq_false_iff_eq, tmodN, tdivN, Int.not_lt, Int.not_le] at g8
    refine Runs.exit rfl ?_
    refine Runs.seq ?_
    refine Runs.reg [] [] rfl (by (try simp only [wrap_i64', wrap_u8, wrap_u16, wrap_u32, wrap_u64, wrap_i32, List.length_cons, List.length_nil, List.length_append, List.length_map, tmodN, tdivN]); and_intros <;> first | exact True.intro | omega | skip) ?_
    exact Runs.retH Try.func20 rfl rfl (by rw [List.take_of_length_le (by omega)]) (by rfl)

end Go.Proofs.PK
namespace Go.Proofs.LP
open Go Go.Am Go.Proofs
variable [MM]
theorem el_list {a b : Nat → AV} {n : Nat} (h : (List.range n).map a = (List.range n).map b) (i : Nat) (hi : i < n) : a i = b i := by
  have := congrArg (fun l => l[i]?) h
  simpa [List.getElem?_map, List.getElem?_range hi] using this
abbrev verA : List AV := [.str [], .int .i64 0, .bool false, .bool false, .str [], .int .i64 0, .int .i64 0, .str [], noneS, noneS, .int .i64 0, .int .i64 0]
abbrev upA : List AV := [.str [], .int .i64 0, .int .i64 0, .str [], noneS, noneS]
abbrev verL : List (List UInt8) := [[], [48], [48], [48], [], [48], [48], [], [48], [48], [48], [48]]
abbrev upL : List (List UInt8) := [[], [48], [48], [], [48], [48]]

theorem text0_ok : FnOK Try.prog 58 [.int .i64 0] [] (.str [48]) [] := by
  refine FnOK.of_runs Try.func58 rfl (Nat.le_of_ble_eq_true rfl) ?_
  refine Runs.seq ?_
  refine Runs.reg [] [] rfl (by (try simp only [wrap_i64', wrap_u8, wrap_u16, wrap_u32, wrap_u64, wrap_i32, List.length_cons, List.length_nil, List.length_append, List.length_map, tmodN, tdivN]); and_intros <;> first | exact True.intro | omega | skip) ?_
  refine Runs.seq ?_
  refine Runs.seq ?_
  refine Runs.reg [] [0] rfl (by (try simp only [wrap_i64', wrap_u8, wrap_u16, wrap_u32, wrap_u64, wrap_i32, List.length_cons, List.length_nil, List.length_append, List.length_map, tmodN, tdivN]); and_intros <;> first | exact True.intro | omega | skip) ?_
  refine Runs.condS rfl (fun g5 => ?_) (fun g5 => ?_)
  · try simp only [decide_eq_true_eq, decide_eq_false_iff_not, notT, notF, beq_iff_eq, beq_eq_false_iff_ne, bne_iff_ne, bne_eq_false_iff_eq, tmodN, tdivN, Int.not_lt, Int.not_le] at g5
    exact absurd g5 (by decide)
  · try simp only [decide_eq_true_eq, decide_eq_false_iff_not, notT, notF, beq_iff_eq, beq_eq_false_iff_ne, bne_iff_ne, bne_eq_false_iff_eq, tmodN, tdivN, Int.not_lt, Int.not_le] at g5
    refine Runs.skip ?_
    refine Runs.seq ?_
    refine Runs.reg [] [] rfl (by (try simp only [wrap_i64', wrap_u8, wrap_u16, wrap_u32, wrap_u64, wrap_i32, List.length_cons, List.length_nil, List.length_append, List.length_map, tmodN, tdivN]); and_intros <;> first | exact True.intro | omega | skip) ?_
    refine Runs.seq ?_
    refine Runs.block ?_
    refine Runs.loop ?_
    refine Runs.inLoop ?_
    refine Runs.seq ?_
    refine Runs.seq ?_
    refine Runs.reg [] [0] rfl (by (try simp only [wrap_i64', wrap_u8, wrap_u16, wrap_u32, wrap_u64, wrap_i32, List.length_cons, List.length_nil, List.length_append, List.length_map, tmodN, tdivN]); and_intros <;> first | exact True.intro | omega | skip) ?_
    refine Runs.condS rfl (fun g15 => ?_) (fun g15 => ?_)
    · try simp only [decide_eq_true_eq, decide_eq_false_iff_not, notT, notF, beq_iff_eq, beq_eq_false_iff_ne, bne_iff_ne, bne_eq_false_iff_eq, tmodN, tdivN, Int.not_lt, Int.not_le] at g15
      exact absurd g15 (by decide)
    · try simp only [decide_eq_true_eq, decide_eq_false_iff_not, notT, notF, beq_iff_eq, beq_eq_false_iff_ne, bne_iff_ne, bne_eq_false_iff_eq, tmodN, tdivN, Int.not_lt, Int.not_le] at g15
      refine Runs.exit rfl ?_
      refine Runs.seq ?_
      refine Runs.reg [(1, { res := .str [48] })] [0, 2] rfl (by and_intros <;> first | exact True.intro | exact PK.rdigit_ok 0 (by decide) | decide) ?_
      exact Runs.retH Try.func58 rfl rfl (by rfl) (by rfl)

theorem yes0_ok : FnOK Try.prog 68 [.bool false] [] (.str [48]) [] := by
  refine FnOK.of_runs Try.func68 rfl (Nat.le_of_ble_eq_true rfl) ?_
  refine Runs.seq ?_
  refine Runs.reg [] [] rfl (by (try simp only [wrap_i64', wrap_u8, wrap_u16, wrap_u32, wrap_u64, wrap_i32, List.length_cons, List.length_nil, List.length_append, List.length_map, tmodN, tdivN]); and_intros <;> first | exact True.intro | omega | skip) ?_
  refine Runs.seq ?_
  refine Runs.seq ?_
  refine Runs.reg [] [0] rfl (by (try simp only [wrap_i64', wrap_u8, wrap_u16, wrap_u32, wrap_u64, wrap_i32, List.length_cons, List.length_nil, List.length_append, List.length_map, tmodN, tdivN]); and_intros <;> first | exact True.intro | omega | skip) ?_
  refine Runs.condS rfl (fun g3 => ?_) (fun g3 => ?_)
  · try simp only [decide_eq_true_eq, decide_eq_false_iff_not, notT, notF, beq_iff_eq, beq_eq_false_iff_ne, bne_iff_ne, bne_eq_false_iff_eq, tmodN, tdivN, Int.not_lt, Int.not_le] at g3
    cases g3
  · try simp only [decide_eq_true_eq, decide_eq_false_iff_not, notT, notF, beq_iff_eq, beq_eq_false_iff_ne, bne_iff_ne, bne_eq_false_iff_eq, tmodN, tdivN, Int.not_lt, Int.not_le] at g3
    refine Runs.skip ?_
    refine Runs.seq ?_
    refine Runs.reg [] [] rfl (by (try simp only [wrap_i64', wrap_u8, wrap_u16, wrap_u32, wrap_u64, wrap_i32, List.length_cons, List.length_nil, List.length_append, List.length_map, tmodN, tdivN]); and_intros <;> first | exact True.intro | omega | skip) ?_
    exact Runs.retH Try.func68 rfl rfl (by rfl) (by rfl)

theorem headers0_ok : FnOK Try.prog 59 [noneS] [] (.sl 1 1 (strEl [[48]]) false) [] := by
  refine FnOK.of_runs Try.func59 rfl (Nat.le_of_ble_eq_true rfl) ?_
  refine Runs.seq ?_
  refine Runs.reg [] [] rfl (by (try simp only [wrap_i64', wrap_u8, wrap_u16, wrap_u32, wrap_u64, wrap_i32, List.length_cons, List.length_nil, List.length_append, List.length_map, tmodN, tdivN]); and_intros <;> first | exact True.intro | omega | skip) ?_
  refine Runs.seq ?_
  refine Runs.reg [(2, { res := .str [48] })] [0] rfl (by and_intros <;> first | exact True.intro | exact text0_ok | decide) ?_
  refine Runs.seq ?_
  refine Runs.seq ?_
  refine Runs.reg [] [] rfl (by (try simp only [wrap_i64', wrap_u8, wrap_u16, wrap_u32, wrap_u64, wrap_i32, List.length_cons, List.length_nil, List.length_append, List.length_map, tmodN, tdivN]); and_intros <;> first | exact True.intro | omega | skip) ?_
  refine Runs.block ?_
  refine Runs.loop ?_
  refine Runs.inLoop ?_
  refine Runs.seq ?_
  refine Runs.seq ?_
  refine Runs.reg [] [0, 1] rfl (by (try simp only [wrap_i64', wrap_u8, wrap_u16, wrap_u32, wrap_u64, wrap_i32, List.length_cons, List.length_nil, List.length_append, List.length_map, tmodN, tdivN]); and_intros <;> first | exact True.intro | omega | skip) ?_
  refine Runs.condS rfl (fun g12 => ?_) (fun g12 => ?_)
  · try simp only [decide_eq_true_eq, decide_eq_false_iff_not, notT, notF, beq_iff_eq, beq_eq_false_iff_ne, bne_iff_ne, bne_eq_false_iff_eq, tmodN, tdivN, Int.not_lt, Int.not_le] at g12
    exact absurd g12 (by decide)
  · try simp only [decide_eq_true_eq, decide_eq_false_iff_not, notT, notF, beq_iff_eq, beq_eq_false_iff_ne, bne_iff_ne, bne_eq_false_iff_eq, tmodN, tdivN, Int.not_lt, Int.not_le] at g12
    refine Runs.exit rfl ?_
    refine Runs.seq ?_
    refine Runs.reg [] [0] rfl (by (try simp only [wrap_i64', wrap_u8, wrap_u16, wrap_u32, wrap_u64, wrap_i32, List.length_cons, List.length_nil, List.length_append, List.length_map, tmodN, tdivN]); and_intros <;> first | exact True.intro | omega | skip) ?_
    refine Runs.conv 2 (a := .sl 1 1 (strEl [[48]]) false) (by exact Imp.sl (el_list (by rfl))) (.inr (by intro vs h; cases h)) (by intro vs h; cases h) ?_
    exact Runs.retH Try.func59 rfl rfl (by rfl) (by rfl)

theorem tags0_ok : FnOK Try.prog 60 [noneS] [] (.sl 1 1 (strEl [[48]]) false) [] := by
  refine FnOK.of_runs Try.func60 rfl (Nat.le_of_ble_eq_true rfl) ?_
  refine Runs.seq ?_
  refine Runs.reg [] [] rfl (by (try simp only [wrap_i64', wrap_u8, wrap_u16, wrap_u32, wrap_u64, wrap_i32, List.length_cons, List.length_nil, List.length_append, List.length_map, tmodN, tdivN]); and_intros <;> first | exact True.intro | omega | skip) ?_
  refine Runs.seq ?_
  refine Runs.reg [(2, { res := .str [48] })] [0] rfl (by and_intros <;> first | exact True.intro | exact text0_ok | decide) ?_
  refine Runs.seq ?_
  refine Runs.seq ?_
  refine Runs.reg [] [] rfl (by (try simp only [wrap_i64', wrap_u8, wrap_u16, wrap_u32, wrap_u64, wrap_i32, List.length_cons, List.length_nil, List.length_append, List.length_map, tmodN, tdivN]); and_intros <;> first | exact True.intro | omega | skip) ?_
  refine Runs.block ?_
  refine Runs.loop ?_
  refine Runs.inLoop ?_
  refine Runs.seq ?_
  refine Runs.seq ?_
  refine Runs.reg [] [0, 1] rfl (by (try simp only [wrap_i64', wrap_u8, wrap_u16, wrap_u32, wrap_u64, wrap_i32, List.length_cons, List.length_nil, List.length_append, List.length_map, tmodN, tdivN]); and_intros <;> first | exact True.intro | omega | skip) ?_
  refine Runs.condS rfl (fun g12 => ?_) (fun g12 => ?_)
  · try simp only [decide_eq_true_eq, decide_eq_false_iff_not, notT, notF, beq_iff_eq, beq_eq_false_iff_ne, bne_iff_ne, bne_eq_false_iff_eq, tmodN, tdivN, Int.not_lt, Int.not_le] at g12
    exact absurd g12 (by decide)
  · try simp only [decide_eq_true_eq, decide_eq_false_iff_not, notT, notF, beq_iff_eq, beq_eq_false_iff_ne, bne_iff_ne, bne_eq_false_iff_eq, tmodN, tdivN, Int.not_lt, Int.not_le] at g12
    refine Runs.exit rfl ?_
    refine Runs.seq ?_
    refine Runs.reg [] [0] rfl (by (try simp only [wrap_i64', wrap_u8, wrap_u16, wrap_u32, wrap_u64, wrap_i32, List.length_cons, List.length_nil, List.length_append, List.length_map, tmodN, tdivN]); and_intros <;> first | exact True.intro | omega | skip) ?_
    refine Runs.conv 2 (a := .sl 1 1 (strEl [[48]]) false) (by exact Imp.sl (el_list (by rfl))) (.inr (by intro vs h; cases h)) (by intro vs h; cases h) ?_
    exact Runs.retH Try.func60 rfl rfl (by rfl) (by rfl)

theorem ver0_ok : FnOK Try.prog 57 [.agg verA] [] (.str (PK.packL verL)) [] := by
  refine FnOK.of_runs Try.func57 rfl (Nat.le_of_ble_eq_true rfl) ?_
  refine Runs.seq ?_
  refine Runs.reg [] [] rfl (by and_intros <;> first | exact True.intro | exact text0_ok | exact yes0_ok | exact headers0_ok | exact tags0_ok | decide | exact Nat.le_of_ble_eq_true rfl) ?_
  refine Runs.seq ?_
  refine Runs.regD [(4, { res := .str [48] }), (7, { res := .str [48] }), (10, { res := .str [48] }), (15, { res := .str [48] }), (18, { res := .str [48] })] [] rfl rfl rfl (by and_intros <;> first | exact True.intro | exact text0_ok | exact yes0_ok | exact headers0_ok | exact tags0_ok | decide | exact Nat.le_of_ble_eq_true rfl) ?_
  refine Runs.seq ?_
  refine Runs.reg [(3, { res := .sl 1 1 (strEl [[48]]) false })] [] rfl (by and_intros <;> first | exact True.intro | exact text0_ok | exact yes0_ok | exact headers0_ok | exact tags0_ok | decide | exact Nat.le_of_ble_eq_true rfl) ?_
  refine Runs.seq ?_
  refine Runs.reg [(3, { res := .sl 1 1 (strEl [[48]]) false })] [] rfl (by and_intros <;> first | exact True.intro | exact text0_ok | exact yes0_ok | exact headers0_ok | exact tags0_ok | decide | exact Nat.le_of_ble_eq_true rfl) ?_
  refine Runs.seq ?_
  refine Runs.regD [(4, { res := .str [48] }), (8, { res := .str [48] })] [] rfl rfl rfl (by and_intros <;> first | exact True.intro | exact text0_ok | exact yes0_ok | exact headers0_ok | exact tags0_ok | decide | exact Nat.le_of_ble_eq_true rfl) ?_
  refine Runs.seq ?_
  refine Runs.reg [(1, { res := .bs (PK.packL verL) false })] [0] rfl (by and_intros <;> first | exact True.intro | exact (PK.rpack_ok verL (by decide) (by decide)).arg ⟨⟨Imp.sl (m := 12) (el_list (by rfl)), rfl, rfl⟩, True.intro⟩ | decide) ?_
  refine Runs.drop 0 (Nat.zero_le _) rfl ?_
  exact Runs.retH Try.func57 rfl rfl (by rfl) (by rfl)

theorem up0_ok : FnOK Try.prog 52 [.agg upA] [] (.str (PK.packL upL)) [] := by
  refine FnOK.of_runs Try.func52 rfl (Nat.le_of_ble_eq_true rfl) ?_
  refine Runs.seq ?_
  refine Runs.reg [] [] rfl (by and_intros <;> first | exact True.intro | exact text0_ok | exact yes0_ok | exact headers0_ok | exact tags0_ok | decide | exact Nat.le_of_ble_eq_true rfl) ?_
  refine Runs.seq ?_
  refine Runs.regD [(4, { res := .str [48] }), (7, { res := .str [48] })] [] rfl rfl rfl (by and_intros <;> first | exact True.intro | exact text0_ok | exact yes0_ok | exact headers0_ok | exact tags0_ok | decide | exact Nat.le_of_ble_eq_true rfl) ?_
  refine Runs.seq ?_
  refine Runs.reg [(4, { res := .sl 1 1 (strEl [[48]]) false })] [] rfl (by and_intros <;> first | exact True.intro | exact text0_ok | exact yes0_ok | exact headers0_ok | exact tags0_ok | decide | exact Nat.le_of_ble_eq_true rfl) ?_
  refine Runs.seq ?_
  refine Runs.reg [(4, { res := .sl 1 1 (strEl [[48]]) false })] [] rfl (by and_intros <;> first | exact True.intro | exact text0_ok | exact yes0_ok | exact headers0_ok | exact tags0_ok | decide | exact Nat.le_of_ble_eq_true rfl) ?_
  refine Runs.seq ?_
  refine Runs.reg [(1, { res := .bs (PK.packL upL) false })] [0] rfl (by and_intros <;> first | exact True.intro | exact (PK.rpack_ok upL (by decide) (by decide)).arg ⟨⟨Imp.sl (m := 6) (el_list (by rfl)), rfl, rfl⟩, True.intro⟩ | decide) ?_
  refine Runs.drop 0 (Nat.zero_le _) rfl ?_
  exact Runs.retH Try.func52 rfl rfl (by rfl) (by rfl)

theorem sameVer_ok : FnOK Try.prog 51 [.agg verA, .agg verA] [] (.bool true) [] := by
  refine FnOK.of_runs Try.func51 rfl (Nat.le_of_ble_eq_true rfl) ?_
  refine Runs.seq ?_
  refine Runs.reg [] [] rfl (by and_intros <;> first | exact True.intro | exact ver0_ok | decide | exact congrArg AV.bool (beq_self_eq_true _) | exact Nat.le_of_ble_eq_true rfl) ?_
  refine Runs.seq ?_
  refine Runs.reg [] [] rfl (by and_intros <;> first | exact True.intro | exact ver0_ok | decide | exact congrArg AV.bool (beq_self_eq_true _) | exact Nat.le_of_ble_eq_true rfl) ?_
  refine Runs.seq ?_
  refine Runs.reg [] [] rfl (by and_intros <;> first | exact True.intro | exact ver0_ok | decide | exact congrArg AV.bool (beq_self_eq_true _) | exact Nat.le_of_ble_eq_true rfl) ?_
  refine Runs.seq ?_
  refine Runs.regD [(1, { res := .str (PK.packL verL) }), (3, { res := .str (PK.packL verL) }), (4, { res := .bool true })] [] rfl rfl rfl (by and_intros <;> first | exact True.intro | exact ver0_ok | decide | exact congrArg AV.bool (beq_self_eq_true _) | exact Nat.le_of_ble_eq_true rfl) ?_
  refine Runs.drop 0 (Nat.zero_le _) rfl ?_
  exact Runs.retH Try.func51 rfl rfl (by rfl) (by rfl)

theorem sameItem_ok (x : Ti) : FnOK Try.prog 36 [.agg (tiA x), .agg (tiA x)] [] (.bool true) [] := by
  refine FnOK.of_runs Try.func36 rfl (Nat.le_of_ble_eq_true rfl) ?_
  refine Runs.seq ?_
  refine Runs.reg [] [] rfl (by and_intros <;> first | exact True.intro | exact sameVer_ok | exact up0_ok | decide | exact Nat.le_of_ble_eq_true rfl | exact congrArg AV.bool (beq_self_eq_true _)) ?_
  refine Runs.seq ?_
  refine Runs.regD [(4, { res := .bool true }), (10, { res := .bool true }), (17, { res := .bool true }), (24, { res := .bool true }), (31, { res := .bool true }), (36, { res := .str (PK.packL upL) }), (39, { res := .str (PK.packL upL) }), (40, { res := .bool true })] [] rfl rfl rfl (by and_intros <;> first | exact True.intro | exact sameVer_ok | exact up0_ok | decide | exact Nat.le_of_ble_eq_true rfl | exact congrArg AV.bool (beq_self_eq_true _)) ?_
  refine Runs.drop 0 (Nat.zero_le _) rfl ?_
  exact Runs.retH Try.func36 rfl rfl (by rfl) (by rfl)

end Go.Proofs.LP
