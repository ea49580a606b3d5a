/- The abstract machine: 'evP', one pure operation. -/
import Derived.Test.YtnohmijdpmelpaaGreatAm7
set_option linter.unusedSectionVars false
set_option linter.unusedVariables false
set_option linter.unusedSimpArgs false
namespace Go.Am
open Go
variable [Tab]
variable {P : Program} {G : Gh} {w : World} {ρ : List Nat}

def tr (o : Option AV) : Option (Prop × AV) := match o with | some v => some (True, v) | none => none
/-- a slice cut: 'lo', 'hi' as numbers (no maximum) -/
def bnd (d : Int) (x : Option AV) : Option Int := match x with | none => some d | some (.int _ i) => some i | _ => none
def sliceE (P : Program) (t : TypeId) (x : AV) (lo hi mx : Option AV) : Option (Prop × AV) :=
  match P.underlying t, x, mx with
  | some .string, .str s, none => match bnd 0 lo, bnd s.length hi with
    | some l, some h => some (0 ≤ l ∧ l ≤ h ∧ h ≤ s.length, .str ((s.take h.toNat).drop l.toNat))
    | _, _ => none
  | some (.slice e), .bs s _, none => match szT P e, bnd 0 lo, bnd s.length hi with
    | some 1, some l, some h => some (0 ≤ l ∧ l ≤ h ∧ h ≤ s.length, .bs ((s.take h.toNat).drop l.toNat) false)
    | _, _, _ => none
  | some (.slice e), .sl sz m el _, none => match szT P e, bnd 0 lo, bnd m hi with
    | some z, some l, some h => bif Nat.beq z sz then some (0 ≤ l ∧ l ≤ h ∧ h ≤ m, .sl sz (h.toNat - l.toNat) (fun i => el (l.toNat + i)) false) else none
    | _, _, _ => none
  | some (.slice e), .hs id off m cp, none => match szT P e, bnd 0 lo, bnd m hi with
    | some (z + 1), some l, some h => some (0 ≤ l ∧ l < cp ∧ l ≤ h ∧ h ≤ cp, .hs id (off + l.toNat * (z + 1)) (h.toNat - l.toNat) (cp - l.toNat))
    | _, _, _ => none
  | some (.array m e), .ptr id off, none => match szT P e, bnd 0 lo, bnd m hi with
    | some (z + 1), some l, some h => some (0 ≤ l ∧ l < m ∧ l ≤ h ∧ h ≤ m, .hs id (off + l.toNat * (z + 1)) (h.toNat - l.toNat) (m - l.toNat))
    | _, _, _ => none
  -- with a maximum that is the length: no room
  | some (.slice e), .bs s _, some (.int _ mx) => match szT P e, bnd 0 lo, hi with
    | some 1, some l, some (.int _ h) => some (0 ≤ l ∧ l ≤ h ∧ h = mx ∧ mx ≤ s.length, .bs ((s.take h.toNat).drop l.toNat) true)
    | _, _, _ => none
  | some (.slice e), .sl sz m el _, some (.int _ mx) => match szT P e, bnd 0 lo, hi with
    | some z, some l, some (.int _ h) => bif Nat.beq z sz then some (0 ≤ l ∧ l ≤ h ∧ h = mx ∧ mx ≤ m, .sl sz (h.toNat - l.toNat) (fun i => el (l.toNat + i)) true) else none
    | _, _, _ => none
  | _, _, _ => none
def evP (P : Program) (fr : Fr) (H : Heap) (o : Oper) : Option (Prop × AV) :=
  match o.op with
  | .move x => some (True, un (opd P o.type fr x))
  | .assign x => some (True, un (opd P o.type fr x))
  | .pick c a b => match opd P o.type fr c with
    | .bool g => some (True, bif g then un (opd P o.type fr a) else un (opd P o.type fr b))
    | _ => none
  | .binOp op t x y _ => binE P op t (isC x || isC y) (opd P t fr x) (opd P t fr y)
  | .unOp op t x => tr (unE op (opd P t fr x))
  | .convert s d x => tr (convE P s d (opd P s fr x))
  | .call c => match c.callee, c.args.toList, c.argTypes.toList with
    | .builtin .len, [x], [t] => tr (lenE P t (opd P t fr x))
    | .builtin .min, [x, y], [t, _] => tr (minMaxE true (opd P t fr x) (opd P t fr y))
    | .builtin .max, [x, y], [t, _] => tr (minMaxE false (opd P t fr x) (opd P t fr y))
    | _, _, _ => none
  | .index t x i => indexE P t (opd P t fr x) (opd P t fr i)
  | .indexAddr t x i => indexAddrE P t (opd P t fr x) (opd P t fr i)
  | .load t a => tr (loadE P H t (opd P t fr a))
  | .fieldAddr s x f => tr (fieldAddrE P s (opd P s fr x) f)
  | .field s x f => tr (fieldE P s (opd P s fr x) f)
  | .extract x i => tr (extractE (opd P o.type fr x) i)
  | .nilCheck x => tr (nilCheckE (opd P o.type fr x))
  | .slice t x lo hi mx => sliceE P t (opd P t fr x) (lo.map (opd P t fr)) (hi.map (opd P t fr)) (mx.map (opd P t fr))
  | .makeInterface t x => match isIface P t with
    | some false => some (True, .iface t (un (opd P t fr x)))
    | _ => none
  | .makeFunc fn first cap => match first.toList with
    | [] => some (True, .fn fn (cap.toList.map fun x => un (opd P o.type fr x)))
    | _ => none
  | _ => none

theorem binOp_eq {t : TypeId} {x y : AV} {p : Prop} {r : Bool} {c : Bool} (he : eqE P t c x y = some (p, r)) (hp : p) {vx vy : Value} (hx : VR G w ρ x vx) (hy : VR G w ρ y vy) :
    (Go.binOp .eql t vx vy).run P w = .ok (.bool r) w ∧ (Go.binOp .neq t vx vy).run P w = .ok (.bool !r) w ∧ (¬ (vx = .nilIface ∧ vy = .nilIface) ∨ c = true) ∧ (∀ a b, ¬ (vx = .agg a ∧ vy = .agg b)) := by
  have key := eq_sound he hp hx hy
  unfold eqE at he
  split at he
  case h_13 => simp at he
  case h_10 =>
    obtain ⟨_, rfl, _⟩ := hx.iface_inv
    obtain ⟨_, rfl, _⟩ := hy.iface_inv
    exact ⟨by simp [Go.binOp, key], by simp [Go.binOp, key], .inl (by simp), by simp⟩
  case h_7 =>
    obtain rfl := hx.nili_inv; obtain rfl := hy.nili_inv
    exact ⟨by simp [Go.binOp, key], by simp [Go.binOp, key], .inr (by cases c <;> simp_all), by simp⟩
  all_goals
    first
    | (obtain rfl := hx.bool_inv; obtain rfl := hy.bool_inv)
    | (obtain rfl := hx.nilp_inv; obtain rfl := hy.nilp_inv)
    | (obtain rfl := hx.nilp_inv; obtain ⟨_, _, rfl⟩ := hy.ptr_inv)
    | (obtain rfl := hx.nilp_inv; obtain ⟨_, _, _, rfl, _⟩ := hy.cptr_inv)
    | (obtain ⟨_, _, rfl⟩ := hx.ptr_inv; obtain rfl := hy.nilp_inv)
    | (obtain ⟨_, _, _, rfl, _⟩ := hx.cptr_inv; obtain rfl := hy.nilp_inv)
    | (obtain rfl := hx.nili_inv; obtain ⟨_, rfl, _⟩ := hy.iface_inv)
    | (obtain ⟨_, rfl, _⟩ := hx.iface_inv; obtain rfl := hy.nili_inv)
    | (obtain rfl := hx.nilfn_inv; obtain rfl := hy.nilfn_inv)
    | (obtain ⟨_, rfl, _⟩ := hx.fn_inv; obtain rfl := hy.nilfn_inv)
    exact ⟨by simp [Go.binOp, key], by simp [Go.binOp, key], .inl (by simp), by simp⟩
theorem eqGuard_pass {op : BinOp} {t : TypeId} {X Y : Operand} {vx vy : Value} (h1 : ¬ (vx = .nilIface ∧ vy = .nilIface) ∨ (isC X || isC Y) = true) (h2 : ∀ a b, ¬ (vx = .agg a ∧ vy = .agg b)) :
    (eqGuard op t X Y vx vy).run P w = .ok () w := by
  unfold eqGuard
  cases op <;> try rfl
  all_goals
    cases vx <;> cases vy <;> first
      | rfl
      | exact absurd ⟨rfl, rfl⟩ (h2 _ _)
      | (have h1 := h1.resolve_left (by simp)
         cases X <;> cases Y <;> first | rfl | simp [isC] at h1)
theorem bin_sound {op : BinOp} {t : TypeId} {X Y : Operand} {x y v : AV} {c : Prop} {vx vy : Value} (h : binE P op t (isC X || isC Y) x y = some (c, v)) (hc : c) (hx : VR G w ρ x vx) (hy : VR G w ρ y vy) :
    ∃ v', (do eqGuard op t X Y vx vy; Go.binOp op t vx vy : Sem Value).run P w = .ok v' w ∧ VR G w ρ v v' ∧ nr v = true := by
  have pass : ∀ {vx vy : Value}, ¬ (vx = .nilIface ∧ vy = .nilIface) → (∀ a b, ¬ (vx = .agg a ∧ vy = .agg b)) → (eqGuard op t X Y vx vy).run P w = .ok () w := fun h1 h2 => eqGuard_pass (.inl h1) h2
  have fin : ∀ {vx vy : Value} {v' : Value}, (eqGuard op t X Y vx vy).run P w = .ok () w → (Go.binOp op t vx vy).run P w = .ok v' w → (do eqGuard op t X Y vx vy; Go.binOp op t vx vy : Sem Value).run P w = .ok v' w := fun h1 h2 => by simp [h1, h2]
  unfold binE at h
  split at h
  · obtain rfl := hx.int_inv; obtain rfl := hy.int_inv
    obtain ⟨v', h1, h2⟩ := shift_sound (P := P) (G := G) (w := w) (ρ := ρ) h hc
    exact ⟨v', fin (pass (by simp) (by simp)) (by simpa [Go.binOp] using h1), h2, by cases v <;> first | rfl | (simp [shiftE] at h)⟩
  · obtain rfl := hx.int_inv; obtain rfl := hy.int_inv
    obtain ⟨v', h1, h2⟩ := shift_sound (P := P) (G := G) (w := w) (ρ := ρ) h hc
    exact ⟨v', fin (pass (by simp) (by simp)) (by simpa [Go.binOp] using h1), h2, by cases v <;> first | rfl | (simp [shiftE] at h)⟩
  · rename_i k a k' b hn1 hn2
    obtain rfl := hx.int_inv; obtain rfl := hy.int_inv
    simp only [cond_eq_ite] at h
    split at h
    · rename_i hk
      simp only [sameK, decide_eq_true_eq] at hk
      subst hk
      obtain ⟨v', h1, h2⟩ := int_sound (P := P) (G := G) (w := w) (ρ := ρ) (t := t) ⟨fun e => hn1 e, fun e => hn2 e⟩ h hc
      refine ⟨v', fin (pass (by simp) (by simp)) h1, h2, ?_⟩
      cases op <;> simp only [intE, Option.some.injEq, Prod.mk.injEq] at h <;> (obtain ⟨_, rfl⟩ := h; rfl)
    · simp at h
  · obtain rfl := hx.str_inv; obtain rfl := hy.str_inv
    obtain ⟨v', h1, h2⟩ := str_sound (P := P) (G := G) (w := w) (ρ := ρ) (t := t) h hc
    refine ⟨v', fin (pass (by simp) (by simp)) h1, h2, ?_⟩
    cases op <;> simp only [strE, Option.some.injEq, Prod.mk.injEq, reduceCtorEq] at h <;> (obtain ⟨_, rfl⟩ := h; rfl)
  · split at h
    · rename_i p r he
      simp only [Option.some.injEq, Prod.mk.injEq] at h
      obtain ⟨rfl, rfl⟩ := h
      obtain ⟨k1, _, k3, k4⟩ := binOp_eq he hc hx hy
      exact ⟨_, fin (eqGuard_pass k3 k4) k1, .bool .., rfl⟩
    · simp at h
  · split at h
    · rename_i p r he
      simp only [Option.some.injEq, Prod.mk.injEq] at h
      obtain ⟨rfl, rfl⟩ := h
      obtain ⟨_, k1, k3, k4⟩ := binOp_eq he hc hx hy
      exact ⟨_, fin (eqGuard_pass k3 k4) k1, .bool .., rfl⟩
    · simp at h
  · simp at h
end Go.Am
