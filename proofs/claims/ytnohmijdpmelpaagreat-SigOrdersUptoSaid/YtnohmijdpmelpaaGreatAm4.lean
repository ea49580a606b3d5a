/- The abstract machine: operations that only reckon or read. -/
import Derived.Test.YtnohmijdpmelpaaGreatAm3
set_option linter.unusedSectionVars false
set_option linter.unusedVariables false
set_option linter.unusedSimpArgs false
namespace Go.Am
open Go
variable [Tab]

def bitsE (op : BinOp) (k : IntKind) (x y : Int) : Int :=
  match op with
  | .and => k.wrap (BitVec.ofInt k.bits x &&& BitVec.ofInt k.bits y).toNat
  | .or => k.wrap (BitVec.ofInt k.bits x ||| BitVec.ofInt k.bits y).toNat
  | .xor => k.wrap (BitVec.ofInt k.bits x ^^^ BitVec.ofInt k.bits y).toNat
  | _ => k.wrap (BitVec.ofInt k.bits x &&& ~~~BitVec.ofInt k.bits y).toNat
def sameK (k k' : IntKind) : Bool := decide (k = k')
def intE (op : BinOp) (k : IntKind) (a b : Int) : Option (Prop × AV) :=
  match op with
  | .add => some (True, .int k (k.wrap (a + b)))
  | .sub => some (True, .int k (k.wrap (a - b)))
  | .mul => some (True, .int k (k.wrap (a * b)))
  | .quo => some (b ≠ 0, .int k (k.wrap (a.tdiv b)))
  | .rem => some (b ≠ 0, .int k (a.tmod b))
  | .and => some (True, .int k (bitsE .and k a b))
  | .or => some (True, .int k (bitsE .or k a b))
  | .xor => some (True, .int k (bitsE .xor k a b))
  | .andNot => some (True, .int k (bitsE .andNot k a b))
  | .eql => some (True, .bool (a == b))
  | .neq => some (True, .bool (a != b))
  | .lss => some (True, .bool (decide (a < b)))
  | .leq => some (True, .bool (decide (a ≤ b)))
  | .gtr => some (True, .bool (decide (b < a)))
  | .geq => some (True, .bool (decide (b ≤ a)))
  | .shl => some (0 ≤ b, .int k (k.wrap (a * 2 ^ (min b.toNat k.bits))))
  | .shr => some (0 ≤ b, .int k (a.fdiv (2 ^ (min b.toNat k.bits))))
def shiftE (op : BinOp) (k : IntKind) (a b : Int) : Option (Prop × AV) :=
  match op with
  | .shl => some (0 ≤ b, .int k (k.wrap (a * 2 ^ (min b.toNat k.bits))))
  | .shr => some (0 ≤ b, .int k (a.fdiv (2 ^ (min b.toNat k.bits))))
  | _ => none
def strE (op : BinOp) (a b : List UInt8) : Option (Prop × AV) :=
  match op with
  | .add => some (a.length + b.length ≤ 9223372036854775807, .str (a ++ b))
  | .eql => some (True, .bool (a == b))
  | .neq => some (True, .bool (!(a == b)))
  | .lss => some (True, .bool (Op.bytesLess a b))
  | .leq => some (True, .bool (Op.bytesLess a b || a == b))
  | .gtr => some (True, .bool (!(Op.bytesLess a b || a == b)))
  | .geq => some (True, .bool (!Op.bytesLess a b))
  | _ => none
def isC : Operand → Bool
  | .const _ => true
  | _ => false
/-- '==' of two values that aren't numbers or strings -/
def eqE (P : Program) (t : TypeId) (c : Bool) (x y : AV) : Option (Prop × Bool) :=
  match P.underlying t, x, y with
  | some .bool, .bool a, .bool b => some (True, a == b)
  | some (.pointer _), .nilp, .nilp => some (True, true)
  | some (.pointer _), .nilp, .ptr _ _ => some (True, false)
  | some (.pointer _), .nilp, .cptr _ => some (True, false)
  | some (.pointer _), .ptr _ _, .nilp => some (True, false)
  | some (.pointer _), .cptr _, .nilp => some (True, false)
  | some (.interface _), .nili, .nili => bif c then some (True, true) else none
  | some (.interface _), .nili, .iface _ _ => some (True, false)
  | some (.interface _), .iface _ _, .nili => some (True, false)
  | some (.interface _), .iface t (.int k a), .iface t' (.int k' b) =>
    bif Nat.beq t t' then
      (match P.info? t, P.underlying t with
      | some i, some (.int _) => bif i.comparable && sameK k k' then some (True, a == b) else none
      | _, _ => none)
    else some (True, false)
  | some (.func _ _ _), .nilfn, .nilfn => some (True, true)
  | some (.func _ _ _), .fn _ _, .nilfn => some (True, false)
  | _, _, _ => none
def binE (P : Program) (op : BinOp) (t : TypeId) (c : Bool) (x y : AV) : Option (Prop × AV) :=
  match op, x, y with
  | .shl, .int k a, .int _ b => shiftE .shl k a b
  | .shr, .int k a, .int _ b => shiftE .shr k a b
  | op, .int k a, .int k' b => bif sameK k k' then intE op k a b else none
  | op, .str a, .str b => strE op a b
  | .eql, x, y => match eqE P t c x y with | some (p, r) => some (p, .bool r) | none => none
  | .neq, x, y => match eqE P t c x y with | some (p, r) => some (p, .bool (!r)) | none => none
  | _, _, _ => none

theorem toList_mk (s : List UInt8) : (ByteArray.mk s.toArray).toList = s := by
  have key : ∀ (m i : Nat) (r : List UInt8), s.length - i = m → i ≤ s.length → ByteArray.toList.loop ⟨s.toArray⟩ i r = r.reverse ++ s.drop i := by
    intro m
    induction m with
    | zero =>
      intro i r h1 h2
      have hi : i = s.length := by omega
      rw [ByteArray.toList.loop]
      have : ¬ i < (ByteArray.mk s.toArray).size := by show ¬ i < s.toArray.size; simp; omega
      rw [if_neg this, hi]; simp
    | succ m ih =>
      intro i r h1 h2
      have hi : i < s.length := by omega
      rw [ByteArray.toList.loop]
      have : i < (ByteArray.mk s.toArray).size := by show i < s.toArray.size; simp; omega
      rw [if_pos this, ih (i + 1) _ (by omega) (by omega)]
      have e : (ByteArray.mk s.toArray).get! i = s[i] := by
        show s.toArray[i]! = s[i]
        simp [hi]
      rw [e, List.drop_eq_getElem_cons hi]; simp
  have := key s.length 0 [] rfl (Nat.zero_le _)
  simpa [ByteArray.toList] using this
variable {P : Program} {G : Gh} {w : World} {ρ : List Nat}
theorem shift_sound {op : BinOp} {k k' : IntKind} {a b : Int} {c : Prop} {v : AV} (h : shiftE op k a b = some (c, v)) (hc : c) :
    ∃ v', (Op.shift op k a k' b).run P w = .ok v' w ∧ VR G w ρ v v' := by
  cases op <;> simp only [shiftE, Option.some.injEq, Prod.mk.injEq, reduceCtorEq] at h <;> obtain ⟨rfl, rfl⟩ := h
  · exact ⟨_, by unfold Op.shift; rw [if_neg (Int.not_lt.2 hc)]; rfl, .int ..⟩
  · exact ⟨_, by unfold Op.shift; rw [if_neg (Int.not_lt.2 hc)]; rfl, .int ..⟩
theorem binOp_int {op : BinOp} (t : TypeId) (k : IntKind) (a b : Int) (h : op = .quo ∨ op = .rem) : Go.binOp op t (.int k a) (.int k b) = Op.intDiv op k a b := by
  rcases h with rfl | rfl <;> simp [Go.binOp]
theorem int_sound {op : BinOp} (hop : op ≠ .shl ∧ op ≠ .shr) {t : TypeId} {k : IntKind} {a b : Int} {c : Prop} {v : AV} (h : intE op k a b = some (c, v)) (hc : c) :
    ∃ v', (Go.binOp op t (.int k a) (.int k b)).run P w = .ok v' w ∧ VR G w ρ v v' := by
  cases op <;> simp only [intE, Option.some.injEq, Prod.mk.injEq] at h <;> obtain ⟨rfl, rfl⟩ := h
  case shl => exact absurd rfl hop.1
  case shr => exact absurd rfl hop.2
  case quo => exact ⟨_, by rw [binOp_int _ _ _ _ (.inl rfl)]; unfold Op.intDiv; rw [if_neg hc]; rfl, .int ..⟩
  case rem => exact ⟨_, by rw [binOp_int _ _ _ _ (.inr rfl)]; unfold Op.intDiv; rw [if_neg hc]; rfl, .int ..⟩
  all_goals first
    | exact ⟨_, by simp [Go.binOp, Op.intArith, Op.intBits, Op.intCmp, bitsE], .int ..⟩
    | exact ⟨_, by simp [Go.binOp, Op.intCmp], .bool ..⟩
    | exact ⟨_, by simp [Go.binOp, Op.intCmp]; rfl, .bool ..⟩
theorem str_sound {op : BinOp} {t : TypeId} {a b : List UInt8} {c : Prop} {v : AV} (h : strE op a b = some (c, v)) (hc : c) :
    ∃ v', (Go.binOp op t (.string ⟨a.toArray⟩) (.string ⟨b.toArray⟩)).run P w = .ok v' w ∧ VR G w ρ v v' := by
  have ea := toList_mk a
  have eb := toList_mk b
  cases op <;> simp only [strE, Option.some.injEq, Prod.mk.injEq, reduceCtorEq] at h <;> obtain ⟨rfl, rfl⟩ := h
  case add =>
    have e : (ByteArray.mk a.toArray ++ ByteArray.mk b.toArray) = ByteArray.mk (a ++ b).toArray := by
      apply ByteArray.ext
      simp
    refine ⟨_, ?_, .str ..⟩
    simp only [Go.binOp, Op.stringOp, ea, eb]
    rw [if_neg (by simp [ByteArray.size, IntKind.max, IntKind.signed, IntKind.bits]; omega), e]
    rfl
  all_goals exact ⟨_, by simp only [Go.binOp, Op.stringOp, ea, eb, Sem.run_pure], .bool ..⟩
theorem run_und {t : TypeId} {d : TypeDesc} (h : P.underlying t = some d) : (underlying t).run P w = .ok d w := by simp [underlying, h]
theorem run_ti {t : TypeId} {i : TypeInfo} (h : P.info? t = some i) : (typeInfo t).run P w = .ok i w := by simp [typeInfo, h]
theorem sl_some {sz m : Nat} {el : Nat → AV} {o : Bool} {v : Value} (h : VR G w ρ (.sl sz m el o) v) (hm : 0 < m) : ∃ b off cap, v = .slice (some (mkA b off)) m cap := by
  cases h with
  | sl ρ sz n el own base cap vs hn hb hsz hc hv =>
    cases base with
    | none => have := hb rfl; omega
    | some p => exact ⟨p.1, p.2, cap, rfl⟩
theorem bs_some {s : List UInt8} {o : Bool} {v : Value} (h : VR G w ρ (.bs s o) v) (hm : 0 < s.length) : ∃ b off cap, v = .slice (some (mkA b off)) s.length cap := by
  cases h with
  | bs ρ s own v h => exact sl_some h hm
theorem equalIn_iface_ne (d : Nat) {t a b : TypeId} {x y : Value} {ms} (h : P.underlying t = some (.interface ms)) (hne : a ≠ b) : (Op.equalIn (d + 1) t (.iface a x) (.iface b y)).run P w = .ok false w := by
  simp [Op.equalIn, run_und h, hne]
theorem equalIn_iface_int (d : Nat) {t a : TypeId} {k : IntKind} {x y : Int} {ms} {i : TypeInfo} {k0 : IntKind} (h : P.underlying t = some (.interface ms)) (hi : P.info? a = some i) (hu : P.underlying a = some (.int k0)) (hc : i.comparable = true) :
    (Op.equalIn (d + 2) t (.iface a (.int k x)) (.iface a (.int k y))).run P w = .ok (x == y) w := by
  simp [Op.equalIn, run_und h, run_und hu, run_ti hi, hc]
theorem VR.int_inv {k x v} (h : VR G w ρ (.int k x) v) : v = .int k x := by cases h; rfl
theorem VR.bool_inv {x v} (h : VR G w ρ (.bool x) v) : v = .bool x := by cases h; rfl
theorem VR.str_inv {x v} (h : VR G w ρ (.str x) v) : v = .string ⟨x.toArray⟩ := by cases h; rfl
theorem VR.nilp_inv {v} (h : VR G w ρ .nilp v) : v = .pointer none := by cases h; rfl
theorem VR.nili_inv {v} (h : VR G w ρ .nili v) : v = .nilIface := by cases h; rfl
theorem VR.nilfn_inv {v} (h : VR G w ρ .nilfn v) : v = .nilFunc := by cases h; rfl
theorem VR.ptr_inv {id off v} (h : VR G w ρ (.ptr id off) v) : ∃ b, ρ[id]? = some b ∧ v = .pointer (some (mkA b off)) := by cases h with | ptr _ _ _ b h => exact ⟨b, h, rfl⟩
theorem VR.hs_inv {id off len cap v} (h : VR G w ρ (.hs id off len cap) v) : ∃ b, ρ[id]? = some b ∧ v = .slice (some (mkA b off)) len cap := by cases h with | hs _ _ _ _ _ b h => exact ⟨b, h, rfl⟩
theorem VR.cptr_inv {x v} (h : VR G w ρ (.cptr x) v) : ∃ (b o : Nat) (vs : Nat → Value), v = .pointer (some (mkA b o)) ∧ (∀ q, q < x.cells.length → G b (o + q) = .frz ∧ w.cell? (mkA b (o + q)) = some (vs q)) ∧ (∀ (q : Nat) (c : AV), x.cells[q]? = some c → VR G w [] c (vs q)) := by
  cases h with | cptr _ _ b o vs hc hv => exact ⟨b, o, vs, rfl, hc, hv⟩
theorem VR.iface_inv {t x v} (h : VR G w ρ (.iface t x) v) : ∃ y, v = .iface t y ∧ VR G w ρ x y := by cases h with | iface _ _ _ y h => exact ⟨y, rfl, h⟩
theorem VR.fn_inv {fx cap v} (h : VR G w ρ (.fn fx cap) v) : ∃ vs : List Value, v = .func fx #[] vs.toArray ∧ vs.length = cap.length ∧ ∀ (q : Nat) (c : AV) (v : Value), cap[q]? = some c → vs[q]? = some v → VR G w ρ c v := by
  cases h with | fn _ _ _ vs hl hv => exact ⟨vs, rfl, hl, hv⟩
theorem VR.agg_inv {cs v} (h : VR G w ρ (.agg cs) v) : ∃ vs : List Value, v = .agg vs.toArray ∧ vs.length = cs.length ∧ ∀ (q : Nat) (c : AV) (v : Value), cs[q]? = some c → vs[q]? = some v → VR G w ρ c v := by
  cases h with | agg _ _ vs hl hv => exact ⟨vs, rfl, hl, hv⟩
theorem VR.tup_inv {cs v} (h : VR G w ρ (.tup cs) v) : ∃ vs : List Value, v = .tuple vs.toArray ∧ vs.length = cs.length ∧ ∀ (q : Nat) (c : AV) (v : Value), cs[q]? = some c → vs[q]? = some v → VR G w ρ c v := by
  cases h with | tup _ _ vs hl hv => exact ⟨vs, rfl, hl, hv⟩
theorem VR.sl_inv {sz m el o v} (h : VR G w ρ (.sl sz m el o) v) : ∃ (base : Option (Nat × Nat)) (cap : Nat) (vs : Nat → Value), v = .slice (base.map fun p => mkA p.1 p.2) m cap ∧ m ≤ cap ∧ (base = none → cap = 0) ∧
    (∀ i, i < m → (el i).cells.length = sz) ∧ (∀ b o, base = some (b, o) → ∀ q, q < m * sz → G b (o + q) = .frz ∧ w.cell? (mkA b (o + q)) = some (vs q)) ∧
    (∀ (i j : Nat) (c : AV), i < m → (el i).cells[j]? = some c → VR G w [] c (vs (i * sz + j))) := by
  cases h with | sl _ _ _ _ _ base cap vs hn hb hsz hc hv => exact ⟨base, cap, vs, rfl, hn, hb, hsz, hc, hv⟩
theorem VR.bs_inv {s o v} (h : VR G w ρ (.bs s o) v) : VR G w [] (.sl 1 s.length (byteEl s) o) v := by cases h; assumption
theorem equalIn_nili (d : Nat) {t : TypeId} {ms} (h : P.underlying t = some (.interface ms)) : (Op.equalIn (d + 1) t .nilIface .nilIface).run P w = .ok true w := by
  simp [Op.equalIn, run_und h]
theorem eqIn1 (d t a b) (hu : P.underlying t = some .bool) : (Op.equalIn (d+1) t (.bool a) (.bool b)).run P w = .ok (a == b) w := by
  simp only [Op.equalIn, Sem.run_bind, run_und hu, Result.andThen_ok, Sem.run_pure, Option.isNone]
theorem eqIn2 (d t e) (hu : P.underlying t = some (.pointer e)) : (Op.equalIn (d+1) t (.pointer none) (.pointer none)).run P w = .ok true w := by
  simp only [Op.equalIn, Sem.run_bind, run_und hu, Result.andThen_ok, Sem.run_pure, Option.isNone]
theorem eqIn3 (d t e a) (hu : P.underlying t = some (.pointer e)) : (Op.equalIn (d+1) t (.pointer none) (.pointer (some a))).run P w = .ok false w := by
  simp only [Op.equalIn, Sem.run_bind, run_und hu, Result.andThen_ok, Sem.run_pure, Option.isNone]
theorem eqIn4 (d t e a) (hu : P.underlying t = some (.pointer e)) : (Op.equalIn (d+1) t (.pointer (some a)) (.pointer none)).run P w = .ok false w := by
  simp only [Op.equalIn, Sem.run_bind, run_und hu, Result.andThen_ok, Sem.run_pure, Option.isNone]
theorem eqIn5 (d t e a b) (hu : P.underlying t = some (.interface e)) : (Op.equalIn (d+1) t .nilIface (.iface a b)).run P w = .ok false w := by
  simp only [Op.equalIn, Sem.run_bind, run_und hu, Result.andThen_ok, Sem.run_pure, Option.isNone]
theorem eqIn6 (d t e a b) (hu : P.underlying t = some (.interface e)) : (Op.equalIn (d+1) t (.iface a b) .nilIface).run P w = .ok false w := by
  simp only [Op.equalIn, Sem.run_bind, run_und hu, Result.andThen_ok, Sem.run_pure, Option.isNone]
theorem eqIn7 (d t e a b) (hu : P.underlying t = some (.func e a b)) : (Op.equalIn (d+1) t .nilFunc .nilFunc).run P w = .ok true w := by
  simp only [Op.equalIn, Sem.run_bind, run_und hu, Result.andThen_ok, Sem.run_pure, Option.isNone]
theorem eqIn8 (d t e a b x y z) (hu : P.underlying t = some (.func e a b)) : (Op.equalIn (d+1) t (.func x y z) .nilFunc).run P w = .ok false w := by
  simp only [Op.equalIn, Sem.run_bind, run_und hu, Result.andThen_ok, Sem.run_pure, Option.isNone]
theorem eq_sound {t : TypeId} {c : Bool} {x y : AV} {p : Prop} {r : Bool} {vx vy : Value} (h : eqE P t c x y = some (p, r)) (hp : p) (hx : VR G w ρ x vx) (hy : VR G w ρ y vy) :
    (Op.equal t vx vy).run P w = .ok r w := by
  unfold Op.equal
  rw [show Op.maxDepth = 9998 + 2 from rfl]
  generalize 9998 = D
  unfold eqE at h
  split at h
  case h_10 hu =>
    simp only [cond_eq_ite] at h
    rename_i t1 k a t2 k' b
    obtain ⟨_, rfl, hx2⟩ := hx.iface_inv
    obtain ⟨_, rfl, hy2⟩ := hy.iface_inv
    obtain rfl := hx2.int_inv
    obtain rfl := hy2.int_inv
    split at h
    · rename_i he
      have he := Nat.eq_of_beq_eq_true he
      subst he
      split at h
      · rename_i i k0 hi hu2
        split at h
        · rename_i hq
          simp only [Bool.and_eq_true, sameK, decide_eq_true_eq] at hq
          obtain ⟨hcmp, rfl⟩ := hq
          simp only [Option.some.injEq, Prod.mk.injEq] at h
          obtain ⟨rfl, rfl⟩ := h
          exact equalIn_iface_int D hu hi hu2 hcmp
        · simp at h
      · simp at h
    · rename_i he
      simp only [Option.some.injEq, Prod.mk.injEq] at h
      obtain ⟨rfl, rfl⟩ := h
      exact equalIn_iface_ne (D + 1) hu (fun e => he (by rw [e]; exact Nat.beq_refl _))
  case h_7 hu =>
    cases c <;> simp at h
    obtain ⟨_, rfl⟩ := h
    obtain rfl := hx.nili_inv
    obtain rfl := hy.nili_inv
    exact equalIn_nili (D + 1) hu
  case h_13 => simp at h
  all_goals
    rename_i hu
    simp only [Option.some.injEq, Prod.mk.injEq] at h
    obtain ⟨rfl, rfl⟩ := h
    first
    | (obtain rfl := hx.bool_inv; obtain rfl := hy.bool_inv; exact eqIn1 _ _ _ _ hu)
    | (obtain rfl := hx.nilp_inv; obtain rfl := hy.nilp_inv; exact eqIn2 _ _ _ hu)
    | (obtain rfl := hx.nilp_inv; obtain ⟨_, _, rfl⟩ := hy.ptr_inv; exact eqIn3 _ _ _ _ hu)
    | (obtain rfl := hx.nilp_inv; obtain ⟨_, _, _, rfl, _⟩ := hy.cptr_inv; exact eqIn3 _ _ _ _ hu)
    | (obtain ⟨_, _, rfl⟩ := hx.ptr_inv; obtain rfl := hy.nilp_inv; exact eqIn4 _ _ _ _ hu)
    | (obtain ⟨_, _, _, rfl, _⟩ := hx.cptr_inv; obtain rfl := hy.nilp_inv; exact eqIn4 _ _ _ _ hu)
    | (obtain rfl := hx.nili_inv; obtain ⟨_, rfl, _⟩ := hy.iface_inv; exact eqIn5 _ _ _ _ _ hu)
    | (obtain ⟨_, rfl, _⟩ := hx.iface_inv; obtain rfl := hy.nili_inv; exact eqIn6 _ _ _ _ _ hu)
    | (obtain rfl := hx.nilfn_inv; obtain rfl := hy.nilfn_inv; exact eqIn7 _ _ _ _ _ hu)
    | (obtain ⟨_, rfl, _⟩ := hx.fn_inv; obtain rfl := hy.nilfn_inv; exact eqIn8 _ _ _ _ _ _ _ _ hu)
end Go.Am
