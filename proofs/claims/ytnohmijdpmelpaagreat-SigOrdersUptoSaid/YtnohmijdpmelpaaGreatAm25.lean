/- The abstract machine: returns reckoned, conditions known, places where ways meet; numbers. -/
import Derived.Test.YtnohmijdpmelpaaGreatAm24
set_option linter.unusedSectionVars false
set_option linter.unusedVariables false
set_option linter.unusedSimpArgs false
namespace Go.Am
open Go
variable [Tab]
variable {P : Program} {n k0 : Nat} {fr fr1 fr' : Fr} {H H1 : Heap} {f : FuncId} {S : List Item} {res : AV} {H' : Heap} {ops : Array Oper}

def retL (P : Program) (fr : Fr) (H : Heap) : List ResultVar → (List AV → Option AV) → Option AV
  | [], k => k []
  | r :: rs, k => match resE1 P fr H r with
    | some x => x.force fun x => retL P fr H rs fun l => k (x :: l)
    | none => none
def retE (P : Program) (fr : Fr) (H : Heap) (rs : List ResultVar) : Option AV := retL P fr H rs fun l => match l with
  | [x] => some x
  | l => some (.tup l)
theorem retL_spec : ∀ {rs : List ResultVar} {k : List AV → Option AV} {v : AV}, retL P fr H rs k = some v → ∃ l, resList P fr H rs = some l ∧ k l = some v
  | [], k, v, h => ⟨[], rfl, h⟩
  | r :: rs, k, v, h => by
    unfold retL at h
    split at h
    · rename_i x e
      rw [AV.force_eq] at h
      obtain ⟨l, h1, h2⟩ := retL_spec h
      exact ⟨x :: l, by unfold resList; rw [e, h1], h2⟩
    · simp at h
theorem Runs.retV {fn : Func} {v : AV} (hf : P.funcs[f]? = some fn) (h : retE P fr H fn.results.toList = some v) (hn : nr v = true) (hr : v = res) : Runs P f n k0 (.code .ret :: S) fr H res H := by
  obtain ⟨l, h1, h2⟩ := retL_spec h
  subst hr
  refine Runs.ret hf h1 ?_ hn
  unfold tupE
  split at h2 <;> simp_all
theorem Runs.retH {fn : Func} {v : AV} (hf : P.funcs[f]? = some fn) (h : retE P fr H fn.results.toList = some v) (hn : nr v = true) (hr : v = res) (hh : H = H') : Runs P f n k0 (.code .ret :: S) fr H res H' := by
  subst hh; exact Runs.retV hf h hn hr
theorem Runs.condT {c : Operand} {x y : Code} (hc : opd P 0 fr c = .bool true) (h : Runs P f n k0 (.code x :: S) fr H res H') : Runs P f n k0 (.code (.cond c x y) :: S) fr H res H' := Runs.cond hc h
theorem Runs.condF {c : Operand} {x y : Code} (hc : opd P 0 fr c = .bool false) (h : Runs P f n k0 (.code y :: S) fr H res H') : Runs P f n k0 (.code (.cond c x y) :: S) fr H res H' := Runs.cond hc h
theorem Runs.condS {c : Operand} {x y : Code} {g : Bool} (hc : opd P 0 fr c = .bool g) (h1 : g = true → Runs P f n k0 (.code x :: S) fr H res H') (h2 : g = false → Runs P f n k0 (.code y :: S) fr H res H') : Runs P f n k0 (.code (.cond c x y) :: S) fr H res H' := Runs.cond hc (gd_split h1 h2)
theorem Runs.splitS (s : Nat) {g : Bool} (hs : fr s = .bool g) (h1 : g = true → Runs P f n k0 S (fr.set s (.bool true)) H res H') (h2 : g = false → Runs P f n k0 S (fr.set s (.bool false)) H res H') : Runs P f n k0 S fr H res H' := Runs.split s hs (gd_split h1 h2)
/-- where ways meet: the rest is shown once -/
theorem Runs.meet {σ : Type} (I : σ → Prop) (L : σ → List (Nat × AV)) (Hp : σ → Heap) {it : Item} (tail : ∀ s, I s → Runs P f n k0 S (frL (L s)) (Hp s) res H')
    (body : (∀ s fr' H1, I s → agree fr' (L s) → H1 = Hp s → Runs P f n k0 S fr' H1 res H') → Runs P f n k0 (it :: S) fr H res H') : Runs P f n k0 (it :: S) fr H res H' :=
  body fun s fr' H1 h1 h2 h3 => by subst h3; exact Runs.frame _ h2 (tail s h1)
theorem agree_nil : agree fr [] := trivial
theorem agree_cons {j : Nat} {v w : AV} {r : List (Nat × AV)} (h : (fr j).force some = some w) (hv : w = v) (hr : agree fr r) : agree fr ((j, v) :: r) := by
  rw [AV.force_eq] at h
  exact ⟨.inl (by rw [← hv]; simpa using h), hr⟩
theorem agree_imp {j : Nat} {v w : AV} {r : List (Nat × AV)} (h : (fr j).force some = some w) (hv : Imp w v) (h1 : noTup w = true) (h2 : noTup v = true) (hr : agree fr r) : agree fr ((j, v) :: r) := by
  rw [AV.force_eq] at h
  simp only [Option.some.injEq] at h
  subst h
  exact ⟨.inr ⟨hv, h1, h2⟩, hr⟩

/-! ### Numbers -/
theorem wrap_i64' (x : Int) : IntKind.i64.wrap x = (x + 9223372036854775808) % 18446744073709551616 - 9223372036854775808 := by
  simp only [IntKind.wrap, IntKind.bits, IntKind.signed, Bool.true_and]
  split <;> rename_i h <;> simp at h <;> omega
theorem wrap_i32 (x : Int) : IntKind.i32.wrap x = (x + 2147483648) % 4294967296 - 2147483648 := by
  simp only [IntKind.wrap, IntKind.bits, IntKind.signed, Bool.true_and]
  split <;> rename_i h <;> simp at h <;> omega
theorem wrap_u8 (x : Int) : IntKind.u8.wrap x = x % 256 := by simp [IntKind.wrap, IntKind.bits, IntKind.signed]
theorem wrap_u16 (x : Int) : IntKind.u16.wrap x = x % 65536 := by simp [IntKind.wrap, IntKind.bits, IntKind.signed]
theorem wrap_u32 (x : Int) : IntKind.u32.wrap x = x % 4294967296 := by simp [IntKind.wrap, IntKind.bits, IntKind.signed]
theorem wrap_u64 (x : Int) : IntKind.u64.wrap x = x % 18446744073709551616 := by simp [IntKind.wrap, IntKind.bits, IntKind.signed]
theorem i64_id {x : Int} (h1 : -9223372036854775808 ≤ x) (h2 : x < 9223372036854775808) : IntKind.i64.wrap x = x := by rw [wrap_i64']; omega
theorem u8_id {x : Int} (h1 : 0 ≤ x) (h2 : x < 256) : IntKind.u8.wrap x = x := by rw [wrap_u8]; omega
theorem bits_nat (k : IntKind) {a b : Nat} (ha : a < 2 ^ k.bits) (hb : b < 2 ^ k.bits) (hk : k.signed = false) :
    bitsE .and k a b = ((a &&& b : Nat) : Int) ∧ bitsE .or k a b = ((a ||| b : Nat) : Int) ∧ bitsE .xor k a b = ((a ^^^ b : Nat) : Int) := by
  have hw : ∀ x : Nat, x < 2 ^ k.bits → k.wrap (x : Int) = x := by
    intro x hx
    simp only [IntKind.wrap, hk, Bool.false_and, Bool.false_eq_true, if_false]
    exact Int.emod_eq_of_lt (Int.natCast_nonneg _) (by exact_mod_cast hx)
  have e : ∀ x : Nat, x < 2 ^ k.bits → (BitVec.ofInt k.bits (x : Int)).toNat = x := by
    intro x hx
    rw [BitVec.toNat_ofInt]
    have : ((x : Int) % ((2 ^ k.bits : Nat) : Int)) = (x : Int) := Int.emod_eq_of_lt (Int.natCast_nonneg _) (by exact_mod_cast hx)
    rw [this]; simp
  refine ⟨?_, ?_, ?_⟩
  · simp only [bitsE]
    rw [BitVec.toNat_and, e a ha, e b hb, hw _ (Nat.and_lt_two_pow _ hb)]
  · simp only [bitsE]
    rw [BitVec.toNat_or, e a ha, e b hb, hw _ (Nat.or_lt_two_pow ha hb)]
  · simp only [bitsE]
    rw [BitVec.toNat_xor, e a ha, e b hb, hw _ (Nat.xor_lt_two_pow ha hb)]
theorem tmodN (n : Nat) (b : Int) : (n : Int).tmod b = (n : Int) % b := Int.tmod_eq_emod_of_nonneg (Int.natCast_nonneg n)
theorem tdivN (n : Nat) (b : Int) : (n : Int).tdiv b = (n : Int) / b := Int.tdiv_eq_ediv_of_nonneg (Int.natCast_nonneg n)
theorem notT {b : Bool} : ((!b) = true) = (b = false) := by cases b <;> simp
theorem notF {b : Bool} : ((!b) = false) = (b = true) := by cases b <;> simp
theorem u8lt (c : UInt8) : c.toNat < 256 := c.toNat_lt
end Go.Am
