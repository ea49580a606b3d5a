/- The abstract machine: 'evP', all pure operations in one. The abstract machine: 'evP', one pure operation. The abstract machine: slices cut. The abstract machine: 'evP' is right. The abstract machine: a pure operation as a step. The abstract machine: new memory, ownership that moves. The abstract machine: variables in memory. -/
import Derived.Test.YtdigohaeakclfaaGreatDoorMa01
set_option linter.unusedSectionVars false
set_option linter.unusedVariables false
set_option linter.unusedSimpArgs false
namespace Go.Am
open Go
variable [Tab]
variable {P : Program} {G : Gh} {w : World} {ρ : List Nat}

theorem index_sound {t : TypeId} {x i v : AV} {c : Prop} {vx vi : Value} (h : indexE P t x i = some (c, v)) (hc : c) (hx : VR G w ρ x vx) (hi : VR G w ρ i vi) :
    ∃ v', (Instr.index t vx vi).run P w = .ok v' w ∧ VR G w ρ v v' := by
  unfold indexE at h
  split at h
  · rename_i s k j hu
    simp only [Option.some.injEq, Prod.mk.injEq] at h
    obtain ⟨rfl, rfl⟩ := h
    obtain rfl := hx.str_inv
    obtain rfl := hi.int_inv
    obtain ⟨h0, h1⟩ := hc
    have hlt : j.toNat < s.length := by omega
    have e : (ByteArray.mk s.toArray)[j.toNat]? = some (s.getD j.toNat 0) := by
      have hs : j.toNat < (ByteArray.mk s.toArray).size := by show _ < s.toArray.size; simpa using hlt
      have e2 : s.getD j.toNat 0 = s[j.toNat] := by simp [List.getD_eq_getElem?_getD, List.getElem?_eq_getElem hlt]
      rw [getElem?_pos (ByteArray.mk s.toArray) j.toNat hs, e2]
      rfl
    refine ⟨_, ?_, .int ..⟩
    simp only [Instr.index, asIntOf, Sem.run_bind, Sem.run_pure, Result.andThen_ok, run_und hu, h0, if_true, e]
  · rename_i m e cs k j hu
    split at h
    · rename_i ha hs
      simp only [Option.some.injEq, Prod.mk.injEq] at h
      obtain ⟨rfl, rfl⟩ := h
      obtain ⟨h0, h1, h2⟩ := hc
      obtain ⟨vs, rfl, hl, hv⟩ := hx.agg_inv
      obtain rfl := hi.int_inv
      have hlt : j.toNat < cs.length := by omega
      have := part_sound (P := P) (G := G) (w := w) (ρ := ρ) (t := e) (cs := cs) (vs := vs) (off := j.toNat) (v := un (cs.getD j.toNat .bad))
        (by simp [partE, ha, hs, List.getD_eq_getElem?_getD, List.getElem?_eq_getElem hlt]) ⟨hl, hv⟩
      obtain ⟨v', hr, hv'⟩ := this
      refine ⟨v', ?_, hv'⟩
      have hb : 0 ≤ j ∧ j < (m : Int) := ⟨h0, by omega⟩
      simp only [Instr.index, asIntOf, Sem.run_bind, Sem.run_pure, Result.andThen_ok, run_und hu, if_pos hb, run_sizeOf hs, Nat.mul_one]
      exact hr
    · simp at h
  · simp at h
theorem indexAddr_sound {t : TypeId} {x i v : AV} {c : Prop} {vx vi : Value} (h : indexAddrE P t x i = some (c, v)) (hc : c) (hx : VR G w ρ x vx) (hi : VR G w ρ i vi) :
    ∃ v', (Instr.indexAt t vx vi).run P w = .ok v' w ∧ VR G w ρ v v' := by
  unfold indexAddrE at h
  split at h
  · rename_i e s o k j hu
    split at h
    · rename_i hs
      simp only [Option.some.injEq, Prod.mk.injEq] at h
      obtain ⟨rfl, rfl⟩ := h
      obtain ⟨h0, h1⟩ := hc
      obtain rfl := hi.int_inv
      obtain ⟨base, cap, rfl, e1, e2, e3⟩ := bytes_cells hx
      cases base with
      | none => have := e2 rfl; omega
      | some p =>
        have e4 := e3 p.1 p.2 rfl j.toNat (by omega)
        refine ⟨.pointer (some (mkA p.1 (p.2 + j.toNat))), ?_, .cptr _ _ _ _ (fun q => .int .u8 (s.getD j.toNat 0).toNat) (fun q hq => ?_) (fun q c hq => ?_)⟩
        · have hb : 0 ≤ j ∧ j < (s.length : Int) := ⟨h0, by omega⟩
          simp only [Instr.indexAt, asIntOf, Sem.run_bind, Sem.run_pure, Result.andThen_ok, run_und hu, Option.map_some, if_pos hb, run_sizeOf hs, Nat.mul_one, mkA_add]
        · simp [byteEl, AV.cells] at hq; subst hq; exact e4
        · simp only [byteEl, AV.cells] at hq
          have : q = 0 := by have := (List.getElem?_eq_some_iff.1 hq).1; simpa using this
          subst this
          simp at hq; subst hq
          exact .int ..
    · simp at h
  · rename_i e sz m el o k j hu
    split at h
    · rename_i z hs
      simp only [cond_eq_ite] at h
      split at h
      · rename_i hz
        have hz := Nat.eq_of_beq_eq_true hz
        subst hz
        simp only [Option.some.injEq, Prod.mk.injEq] at h
        obtain ⟨rfl, rfl⟩ := h
        obtain ⟨h0, h1⟩ := hc
        obtain rfl := hi.int_inv
        obtain ⟨base, cap, vs, rfl, e1, e2, e3, e4, e5⟩ := hx.sl_inv
        have hj : j.toNat < m := by omega
        cases base with
        | none => have := e2 rfl; omega
        | some p =>
          refine ⟨.pointer (some (mkA p.1 (p.2 + j.toNat * z))), ?_, .cptr _ _ _ _ (fun q => vs (j.toNat * z + q)) (fun q hq => ?_) (fun q c hq => e5 _ _ _ hj hq)⟩
          · have hb : 0 ≤ j ∧ j < (m : Int) := ⟨h0, by omega⟩
            simp only [Instr.indexAt, asIntOf, Sem.run_bind, Sem.run_pure, Result.andThen_ok, run_und hu, Option.map_some, if_pos hb, run_sizeOf hs, mkA_add]
          · rw [e3 _ hj] at hq
            have : j.toNat * z + q < m * z := by
              have : (j.toNat + 1) * z ≤ m * z := Nat.mul_le_mul_right _ hj
              rw [Nat.succ_mul] at this; omega
            have := e4 p.1 p.2 rfl _ this
            rwa [← Nat.add_assoc] at this
      · simp at h
    · simp at h
  · rename_i e id off m cp k j hu
    split at h
    · rename_i z hs
      simp only [Option.some.injEq, Prod.mk.injEq] at h
      obtain ⟨rfl, rfl⟩ := h
      obtain ⟨h0, h1⟩ := hc
      obtain rfl := hi.int_inv
      obtain ⟨b, hr, rfl⟩ := hx.hs_inv
      refine ⟨.pointer (some (mkA b (off + j.toNat * z))), ?_, .ptr _ _ _ _ hr⟩
      have hb : 0 ≤ j ∧ j < (m : Int) := ⟨h0, by omega⟩
      simp only [Instr.indexAt, asIntOf, Sem.run_bind, Sem.run_pure, Result.andThen_ok, run_und hu, if_pos hb, run_sizeOf hs, mkA_add]
    · simp at h
  · rename_i m e id off k j hu
    split at h
    · rename_i z hs
      simp only [Option.some.injEq, Prod.mk.injEq] at h
      obtain ⟨rfl, rfl⟩ := h
      obtain ⟨h0, h1⟩ := hc
      obtain rfl := hi.int_inv
      obtain ⟨b, hr, rfl⟩ := hx.ptr_inv
      refine ⟨.pointer (some (mkA b (off + j.toNat * z))), ?_, .ptr _ _ _ _ hr⟩
      have hb : 0 ≤ j ∧ j < (m : Int) := ⟨h0, by omega⟩
      simp only [Instr.indexAt, asIntOf, Sem.run_bind, Sem.run_pure, Result.andThen_ok, run_und hu, Instr.sureAddr, if_pos hb, run_sizeOf hs, mkA_add]
    · simp at h
  · simp at h
theorem run_fieldPlace {b off : Nat} {fd : Field} {z : Nat} (h : szT P fd.type = some (z + 1)) : (fieldPlace (mkA b off) fd).run P w = .ok (mkA b (off + fd.offset)) w := by
  simp [fieldPlace, run_sizeOf h, mkA_add]
theorem fieldOf_some {s : TypeId} {f o t : Nat} (h : fieldOf P s f = some (o, t)) : ∃ fs fd, P.underlying s = some (.struct fs) ∧ fs[f]? = some fd ∧ fd.offset = o ∧ fd.type = t := by
  unfold fieldOf at h
  split at h
  · rename_i fs hu
    obtain ⟨fd, h1, h2⟩ := Option.map_eq_some_iff.1 h
    simp only [Prod.mk.injEq] at h2
    exact ⟨fs, fd, hu, h1, h2.1, h2.2⟩
  · simp at h
theorem fieldAddr_sound {s : TypeId} {x v : AV} {f : Nat} {vx : Value} (h : fieldAddrE P s x f = some v) (hx : VR G w ρ x vx) :
    ∃ v', (Instr.fieldAt s vx f).run P w = .ok v' w ∧ VR G w ρ v v' := by
  unfold fieldAddrE at h
  split at h
  · rename_i o t id off hf
    obtain ⟨fs, fd, hu, h1, rfl, rfl⟩ := fieldOf_some hf
    split at h
    · rename_i z hz
      simp only [Option.some.injEq] at h; subst h
      obtain ⟨b, hr, rfl⟩ := hx.ptr_inv
      exact ⟨_, by simp [Instr.fieldAt, run_und hu, h1, Instr.sureAddr, run_fieldPlace hz], .ptr _ _ _ _ hr⟩
    · simp at h
  · rename_i o t cs hf
    obtain ⟨fs, fd, hu, h1, rfl, rfl⟩ := fieldOf_some hf
    split at h
    · rename_i z hz
      simp only [cond_eq_ite] at h
      split at h
      · rename_i hle
        have hle := Nat.le_of_ble_eq_true hle
        obtain ⟨b, off, vs, rfl, hc, hv⟩ := hx.cptr_inv
        simp only [AV.cells] at hc hv
        have hrun : (Instr.fieldAt s (.pointer (some (mkA b off))) f).run P w = .ok (.pointer (some (mkA b (off + fd.offset)))) w := by
          simp [Instr.fieldAt, run_und hu, h1, Instr.sureAddr, run_fieldPlace hz]
        split at h
        · simp only [Option.some.injEq] at h; subst h
          refine ⟨_, hrun, .cptr _ _ _ _ (fun q => vs (fd.offset + q)) (fun q hq => ?_) (fun q c hq => ?_)⟩
          · simp [AV.cells] at hq
            have := hc (fd.offset + q) (by omega)
            rwa [← Nat.add_assoc] at this
          · simp only [AV.cells, List.getElem?_take] at hq
            split at hq
            · rw [List.getElem?_drop] at hq; exact hv _ _ hq
            · simp at hq
        · obtain ⟨c, hq, h⟩ := Option.bind_eq_some_iff.1 h
          have hcv := hv _ _ hq
          have hcc := hc fd.offset (by omega)
          cases c with
          | agg ds => simp [isSc] at h
          | _ =>
            simp [isSc] at h; subst h
            exact ⟨_, hrun, .cptr _ _ _ _ (fun q => vs (fd.offset + q)) (fun q hq => by simp [AV.cells] at hq; subst hq; exact hcc) (fun q c hq => by
              simp only [AV.cells] at hq
              have : q = 0 := by have := (List.getElem?_eq_some_iff.1 hq).1; simpa using this
              subst this
              simp at hq; subst hq
              exact hcv)⟩
        · simp at h
      · simp at h
    · simp at h
  · simp at h
theorem field_sound {s : TypeId} {x v : AV} {f : Nat} {vx : Value} (h : fieldE P s x f = some v) (hx : VR G w ρ x vx) :
    ∃ v', (Instr.field s vx f).run P w = .ok v' w ∧ VR G w ρ v v' := by
  unfold fieldE at h
  split at h
  · rename_i o t cs hf
    obtain ⟨fs, fd, hu, h1, rfl, rfl⟩ := fieldOf_some hf
    obtain ⟨vs, rfl, hl, hv⟩ := hx.agg_inv
    obtain ⟨v', hr, hv'⟩ := part_sound (P := P) h ⟨hl, hv⟩
    exact ⟨v', by simpa [Instr.field, run_und hu, h1, asAgg] using hr, hv'⟩
  · simp at h
theorem extract_sound {x v : AV} {i : Nat} {vx : Value} (h : extractE x i = some v) (hx : VR G w ρ x vx) : ∃ v', (Instr.extract vx i).run P w = .ok v' w ∧ VR G w ρ v v' := by
  unfold extractE at h
  split at h
  · obtain ⟨c, hc, rfl⟩ := Option.map_eq_some_iff.1 h
    obtain ⟨vs, rfl, hl, hv⟩ := hx.tup_inv
    have hi : i < vs.length := by rw [hl]; exact (List.getElem?_eq_some_iff.1 hc).1
    exact ⟨vs[i], by simp [Instr.extract, hi], (hv i c _ hc (List.getElem?_eq_getElem hi)).un⟩
  · simp at h
end Go.Am
set_option linter.unusedSectionVars false
set_option linter.unusedVariables false
set_option linter.unusedSimpArgs false
namespace Go.Am
open Go
variable [Tab]
variable {P : Program} {G : Gh} {w : World} {ρ : List Nat}

def tr (o : Option AV) : Option (Prop × AV) := match o with | some v => some (True, v) | none => none
/-- a slice cut: 'lo', 'hi' as numbers (no maximum) -/
def bnd (d : Int) (x : Option AV) : Option Int := match x with | none => some d | some (.int _ i) => some i | _ => none
def sliceE (P : Program) (t : TypeId) (x : AV) (lo hi mx : Option AV) : Option (Prop × AV) :=
  match P.underlying t, x, mx with
  | some .string, .str s, none => match bnd 0 lo, bnd s.length hi with
    | some l, some h => some (0 ≤ l ∧ l ≤ h ∧ h ≤ s.length, .str ((s.take h.toNat).drop l.toNat))
    | _, _ => none
  | some (.slice e), .bs s _, none => match szT P e, bnd 0 lo, bnd s.length hi with
    | some 1, some l, some h => some (0 ≤ l ∧ l ≤ h ∧ h ≤ s.length, .bs ((s.take h.toNat).drop l.toNat) false)
    | _, _, _ => none
  | some (.slice e), .sl sz m el _, none => match szT P e, bnd 0 lo, bnd m hi with
    | some z, some l, some h => bif Nat.beq z sz then some (0 ≤ l ∧ l ≤ h ∧ h ≤ m, .sl sz (h.toNat - l.toNat) (fun i => el (l.toNat + i)) false) else none
    | _, _, _ => none
  | some (.slice e), .hs id off m cp, none => match szT P e, bnd 0 lo, bnd m hi with
    | some (z + 1), some l, some h => some (0 ≤ l ∧ l < cp ∧ l ≤ h ∧ h ≤ cp, .hs id (off + l.toNat * (z + 1)) (h.toNat - l.toNat) (cp - l.toNat))
    | _, _, _ => none
  | some (.array m e), .ptr id off, none => match szT P e, bnd 0 lo, bnd m hi with
    | some (z + 1), some l, some h => some (0 ≤ l ∧ l < m ∧ l ≤ h ∧ h ≤ m, .hs id (off + l.toNat * (z + 1)) (h.toNat - l.toNat) (m - l.toNat))
    | _, _, _ => none
  -- with a maximum that is the length: no room
  | some (.slice e), .bs s _, some (.int _ mx) => match szT P e, bnd 0 lo, hi with
    | some 1, some l, some (.int _ h) => some (0 ≤ l ∧ l ≤ h ∧ h = mx ∧ mx ≤ s.length, .bs ((s.take h.toNat).drop l.toNat) true)
    | _, _, _ => none
  | some (.slice e), .sl sz m el _, some (.int _ mx) => match szT P e, bnd 0 lo, hi with
    | some z, some l, some (.int _ h) => bif Nat.beq z sz then some (0 ≤ l ∧ l ≤ h ∧ h = mx ∧ mx ≤ m, .sl sz (h.toNat - l.toNat) (fun i => el (l.toNat + i)) true) else none
    | _, _, _ => none
  | _, _, _ => none
def evP (P : Program) (fr : Fr) (H : Heap) (o : Oper) : Option (Prop × AV) :=
  match o.op with
  | .move x => some (True, un (opd P o.type fr x))
  | .assign x => some (True, un (opd P o.type fr x))
  | .pick c a b => match opd P o.type fr c with
    | .bool g => some (True, bif g then un (opd P o.type fr a) else un (opd P o.type fr b))
    | _ => none
  | .binOp op t x y _ => binE P op t (isC x || isC y) (opd P t fr x) (opd P t fr y)
  | .unOp op t x => tr (unE op (opd P t fr x))
  | .convert s d x => tr (convE P s d (opd P s fr x))
  | .call c => match c.callee, c.args.toList, c.argTypes.toList with
    | .builtin .len, [x], [t] => tr (lenE P t (opd P t fr x))
    | .builtin .min, [x, y], [t, _] => tr (minMaxE true (opd P t fr x) (opd P t fr y))
    | .builtin .max, [x, y], [t, _] => tr (minMaxE false (opd P t fr x) (opd P t fr y))
    | _, _, _ => none
  | .index t x i => indexE P t (opd P t fr x) (opd P t fr i)
  | .indexAddr t x i => indexAddrE P t (opd P t fr x) (opd P t fr i)
  | .load t a => tr (loadE P H t (opd P t fr a))
  | .fieldAddr s x f => tr (fieldAddrE P s (opd P s fr x) f)
  | .field s x f => tr (fieldE P s (opd P s fr x) f)
  | .extract x i => tr (extractE (opd P o.type fr x) i)
  | .nilCheck x => tr (nilCheckE (opd P o.type fr x))
  | .slice t x lo hi mx => sliceE P t (opd P t fr x) (lo.map (opd P t fr)) (hi.map (opd P t fr)) (mx.map (opd P t fr))
  | .makeInterface t x => match isIface P t with
    | some false => some (True, .iface t (un (opd P t fr x)))
    | _ => none
  | .makeFunc fn first cap => match fn, first.toList with
    | .func g, [] => some (True, .fn (.func g) (cap.toList.map fun x => un (opd P o.type fr x)))
    | _, _ => none
  | _ => none

theorem binOp_eq {t : TypeId} {x y : AV} {p : Prop} {r : Bool} {c : Bool} (he : eqE P t c x y = some (p, r)) (hp : p) {vx vy : Value} (hx : VR G w ρ x vx) (hy : VR G w ρ y vy) :
    (Go.binOp .eql t vx vy).run P w = .ok (.bool r) w ∧ (Go.binOp .neq t vx vy).run P w = .ok (.bool !r) w ∧ (¬ (vx = .nilIface ∧ vy = .nilIface) ∨ c = true) ∧ (∀ a b, ¬ (vx = .agg a ∧ vy = .agg b)) := by
  have key := eq_sound he hp hx hy
  unfold eqE at he
  split at he
  case h_13 => simp at he
  case h_10 =>
    obtain ⟨_, rfl, _⟩ := hx.iface_inv
    obtain ⟨_, rfl, _⟩ := hy.iface_inv
    exact ⟨by simp [Go.binOp, key], by simp [Go.binOp, key], .inl (by simp), by simp⟩
  case h_7 =>
    obtain rfl := hx.nili_inv; obtain rfl := hy.nili_inv
    exact ⟨by simp [Go.binOp, key], by simp [Go.binOp, key], .inr (by cases c <;> simp_all), by simp⟩
  all_goals
    first
    | (obtain rfl := hx.bool_inv; obtain rfl := hy.bool_inv)
    | (obtain rfl := hx.nilp_inv; obtain rfl := hy.nilp_inv)
    | (obtain rfl := hx.nilp_inv; obtain ⟨_, _, rfl⟩ := hy.ptr_inv)
    | (obtain rfl := hx.nilp_inv; obtain ⟨_, _, _, rfl, _⟩ := hy.cptr_inv)
    | (obtain ⟨_, _, rfl⟩ := hx.ptr_inv; obtain rfl := hy.nilp_inv)
    | (obtain ⟨_, _, _, rfl, _⟩ := hx.cptr_inv; obtain rfl := hy.nilp_inv)
    | (obtain rfl := hx.nili_inv; obtain ⟨_, rfl, _⟩ := hy.iface_inv)
    | (obtain ⟨_, rfl, _⟩ := hx.iface_inv; obtain rfl := hy.nili_inv)
    | (obtain rfl := hx.nilfn_inv; obtain rfl := hy.nilfn_inv)
    | (obtain ⟨_, _, _, rfl⟩ := hx.fn_any; obtain rfl := hy.nilfn_inv)
    exact ⟨by simp [Go.binOp, key], by simp [Go.binOp, key], .inl (by simp), by simp⟩
theorem eqGuard_pass {op : BinOp} {t : TypeId} {X Y : Operand} {vx vy : Value} (h1 : ¬ (vx = .nilIface ∧ vy = .nilIface) ∨ (isC X || isC Y) = true) (h2 : ∀ a b, ¬ (vx = .agg a ∧ vy = .agg b)) :
    (eqGuard op t X Y vx vy).run P w = .ok () w := by
  unfold eqGuard
  cases op <;> try rfl
  all_goals
    cases vx <;> cases vy <;> first
      | rfl
      | exact absurd ⟨rfl, rfl⟩ (h2 _ _)
      | (have h1 := h1.resolve_left (by simp)
         cases X <;> cases Y <;> first | rfl | simp [isC] at h1)
theorem pair2_inv {x : AV} {p : List UInt8 × List UInt8} {v : Value} (h : pair2 x = some p) (hx : VR G w ρ x v) : v = .agg #[.string ⟨p.1.toArray⟩, .string ⟨p.2.toArray⟩] := by
  unfold pair2 at h
  split at h
  · cases h
    obtain ⟨vs, rfl, hl, hv⟩ := hx.agg_inv
    match vs, hl with
    | [a, b], _ => rw [(hv 0 _ a rfl rfl).str_inv, (hv 1 _ b rfl rfl).str_inv]
  · cases h
theorem bin_sound {op : BinOp} {t : TypeId} {X Y : Operand} {x y v : AV} {c : Prop} {vx vy : Value} (h : binE P op t (isC X || isC Y) x y = some (c, v)) (hc : c) (hx : VR G w ρ x vx) (hy : VR G w ρ y vy) :
    ∃ v', (do eqGuard op t X Y vx vy; Go.binOp op t vx vy : Sem Value).run P w = .ok v' w ∧ VR G w ρ v v' ∧ nr v = true := by
  have pass : ∀ {vx vy : Value}, ¬ (vx = .nilIface ∧ vy = .nilIface) → (∀ a b, ¬ (vx = .agg a ∧ vy = .agg b)) → (eqGuard op t X Y vx vy).run P w = .ok () w := fun h1 h2 => eqGuard_pass (.inl h1) h2
  have fin : ∀ {vx vy : Value} {v' : Value}, (eqGuard op t X Y vx vy).run P w = .ok () w → (Go.binOp op t vx vy).run P w = .ok v' w → (do eqGuard op t X Y vx vy; Go.binOp op t vx vy : Sem Value).run P w = .ok v' w := fun h1 h2 => by simp [h1, h2]
  unfold binE at h
  split at h
  · obtain rfl := hx.int_inv; obtain rfl := hy.int_inv
    obtain ⟨v', h1, h2⟩ := shift_sound (P := P) (G := G) (w := w) (ρ := ρ) h hc
    exact ⟨v', fin (pass (by simp) (by simp)) (by simpa [Go.binOp] using h1), h2, by cases v <;> first | rfl | (simp [shiftE] at h)⟩
  · obtain rfl := hx.int_inv; obtain rfl := hy.int_inv
    obtain ⟨v', h1, h2⟩ := shift_sound (P := P) (G := G) (w := w) (ρ := ρ) h hc
    exact ⟨v', fin (pass (by simp) (by simp)) (by simpa [Go.binOp] using h1), h2, by cases v <;> first | rfl | (simp [shiftE] at h)⟩
  · rename_i k a k' b hn1 hn2
    obtain rfl := hx.int_inv; obtain rfl := hy.int_inv
    simp only [cond_eq_ite] at h
    split at h
    · rename_i hk
      simp only [sameK, decide_eq_true_eq] at hk
      subst hk
      obtain ⟨v', h1, h2⟩ := int_sound (P := P) (G := G) (w := w) (ρ := ρ) (t := t) ⟨fun e => hn1 e, fun e => hn2 e⟩ h hc
      refine ⟨v', fin (pass (by simp) (by simp)) h1, h2, ?_⟩
      cases op <;> simp only [intE, Option.some.injEq, Prod.mk.injEq] at h <;> (obtain ⟨_, rfl⟩ := h; rfl)
    · simp at h
  · obtain rfl := hx.str_inv; obtain rfl := hy.str_inv
    obtain ⟨v', h1, h2⟩ := str_sound (P := P) (G := G) (w := w) (ρ := ρ) (t := t) h hc
    refine ⟨v', fin (pass (by simp) (by simp)) h1, h2, ?_⟩
    cases op <;> simp only [strE, Option.some.injEq, Prod.mk.injEq, reduceCtorEq] at h <;> (obtain ⟨_, rfl⟩ := h; rfl)
  · split at h
    · rename_i p r he
      simp only [Option.some.injEq, Prod.mk.injEq] at h
      obtain ⟨rfl, rfl⟩ := h
      obtain ⟨k1, _, k3, k4⟩ := binOp_eq he hc hx hy
      exact ⟨_, fin (eqGuard_pass k3 k4) k1, .bool .., rfl⟩
    · simp at h
  · rw [cond_eq_ite] at h
    split at h
    · unfold neAgg at h
      split at h
      · rename_i p q hp hq
        simp only [Option.some.injEq, Prod.mk.injEq] at h
        obtain ⟨rfl, rfl⟩ := h
        have e1 := pair2_inv hp hx
        have e2 := pair2_inv hq hy
        subst e1 e2
        refine ⟨.bool (!decide (p.1 = q.1 ∧ p.2 = q.2)), fin ?_ ?_, .bool .., rfl⟩
        · simp [eqGuard, hc.1]
        · simp [Go.binOp, hc.2]
      · simp at h
    · split at h
      · rename_i p r he
        simp only [Option.some.injEq, Prod.mk.injEq] at h
        obtain ⟨rfl, rfl⟩ := h
        obtain ⟨_, k1, k3, k4⟩ := binOp_eq he hc hx hy
        exact ⟨_, fin (eqGuard_pass k3 k4) k1, .bool .., rfl⟩
      · simp at h
  · simp at h
end Go.Am
set_option linter.unusedSectionVars false
set_option linter.unusedVariables false
set_option linter.unusedSimpArgs false
namespace Go.Am
open Go
variable [Tab]
variable {P : Program} {G : Gh} {w : World} {ρ : List Nat}

def OptVR (G : Gh) (w : World) (ρ : List Nat) : Option AV → Option Value → Prop
  | none, none => True
  | some a, some v => VR G w ρ a v
  | _, _ => False
theorem bounds_none {b : Bool} {len cap : Nat} {lo hi : Option AV} {rl rh : Option Value} {l h : Int} (hl : OptVR G w ρ lo rl) (hh : OptVR G w ρ hi rh)
    (el : bnd 0 lo = some l) (eh : bnd len hi = some h) (h0 : 0 ≤ l) (h1 : l ≤ h) (h2 : h ≤ cap) :
    (Instr.sliceBounds b len cap rl rh none).run P w = .ok (l.toNat, h.toNat, cap) w := by
  have hh0 : 0 ≤ h := by omega
  have key : ∀ {x : Int} {k : IntKind} {y : Nat} {code}, 0 ≤ x → x ≤ y → (Instr.sliceBound (.int k x) y code).run P w = .ok x.toNat w := by
    intro x k y code a b
    simp [Instr.sliceBound, asIntOf, a, b]
  have hlow : ∀ c, (match rl with | some v => Instr.sliceBound v h.toNat c | none => pure 0 : Sem Nat).run P w = .ok l.toNat w := by
    intro c
    cases lo with
    | none =>
      cases rl with
      | none => simp [bnd] at el; subst el; rfl
      | some _ => exact hl.elim
    | some a =>
      cases rl with
      | none => exact hl.elim
      | some v =>
        cases a <;> simp [bnd] at el
        subst el
        obtain rfl := VR.int_inv hl
        exact key h0 (by omega)
  have hhigh : ∀ c, (match rh with | some v => Instr.sliceBound v cap c | none => pure len : Sem Nat).run P w = .ok h.toNat w := by
    intro c
    cases hi with
    | none =>
      cases rh with
      | none => simp [bnd] at eh; subst eh; rfl
      | some _ => exact hh.elim
    | some a =>
      cases rh with
      | none => exact hh.elim
      | some v =>
        cases a <;> simp [bnd] at eh
        subst eh
        obtain rfl := VR.int_inv hh
        exact key hh0 (by omega)
  have h3 := hlow (if false then .slice3C else .sliceB)
  have h4 := hhigh (if b then .sliceAcap else .sliceAlen)
  unfold Instr.sliceBounds
  cases rh with
  | none =>
    simp only [Sem.run_pure, Result.ok.injEq, and_true] at h4
    simp only [Sem.run_bind, Sem.run_pure, Result.andThen_ok, h4]
    cases rl with
    | none => simp only [Sem.run_pure, Result.ok.injEq, and_true] at h3; simp [h3]
    | some v =>
      have h3 : Sem.run P (Instr.sliceBound v h.toNat (if false = true then .slice3C else .sliceB)) w = .ok l.toNat w := h3
      simp only [Option.isSome, Sem.run_bind, h3, Result.andThen_ok, Sem.run_pure]
  | some vh =>
    simp only [Sem.run_bind, Sem.run_pure, Result.andThen_ok, h4]
    cases rl with
    | none => simp only [Sem.run_pure, Result.ok.injEq, and_true] at h3; simp [h3]
    | some v =>
      have h3 : Sem.run P (Instr.sliceBound v h.toNat (if false = true then .slice3C else .sliceB)) w = .ok l.toNat w := h3
      simp only [Option.isSome, Sem.run_bind, h3, Result.andThen_ok, Sem.run_pure]
theorem bounds_max {b : Bool} {len cap : Nat} {lo : Option AV} {rl : Option Value} {l h mx : Int} {k k2 : IntKind} (hl : OptVR G w ρ lo rl)
    (el : bnd 0 lo = some l) (h0 : 0 ≤ l) (h1 : l ≤ h) (h2 : h ≤ mx) (h3 : mx ≤ cap) :
    (Instr.sliceBounds b len cap rl (some (.int k h)) (some (.int k2 mx))).run P w = .ok (l.toNat, h.toNat, mx.toNat) w := by
  have key : ∀ {x : Int} {k : IntKind} {y : Nat} {code}, 0 ≤ x → x ≤ y → (Instr.sliceBound (.int k x) y code).run P w = .ok x.toNat w := by
    intro x k y code a b
    simp [Instr.sliceBound, asIntOf, a, b]
  have hlow : ∀ c, (match rl with | some v => Instr.sliceBound v h.toNat c | none => pure 0 : Sem Nat).run P w = .ok l.toNat w := by
    intro c
    cases lo with
    | none =>
      cases rl with
      | none => simp [bnd] at el; subst el; rfl
      | some _ => exact hl.elim
    | some a =>
      cases rl with
      | none => exact hl.elim
      | some v =>
        cases a <;> simp [bnd] at el
        subst el
        obtain rfl := VR.int_inv hl
        exact key h0 (by omega)
  have h4 := hlow .slice3C
  unfold Instr.sliceBounds
  simp only [Sem.run_bind, key (show 0 ≤ mx by omega) h3, key (show 0 ≤ h by omega) (show h ≤ (mx.toNat : Int) by omega), Result.andThen_ok, Option.isSome]
  cases rl with
  | none => simp only [Sem.run_pure, Result.ok.injEq, and_true] at h4; simp [h4]
  | some v =>
    have h4 : Sem.run P (Instr.sliceBound v h.toNat .slice3C) w = .ok l.toNat w := h4
    simp only [if_true, Sem.run_bind, h4, Result.andThen_ok, Sem.run_pure]
/-- a part of a slice -/
theorem VR.slice_part {sz m : Nat} {el : Nat → AV} {o o' : Bool} {v : Value} (hv : VR G w ρ (.sl sz m el o) v) {l h : Nat} (h1 : l ≤ h) (h2 : h ≤ m) :
    ∃ base cap, v = .slice base m cap ∧ m ≤ cap ∧ (∀ mx, h ≤ mx → mx ≤ cap → VR G w ρ (.sl sz (h - l) (fun i => el (l + i)) o') (.slice (if mx = l then base else base.map (·.add (l * sz))) (h - l) (mx - l))) := by
  obtain ⟨base, cap, vs, rfl, e1, e2, e3, e4, e5⟩ := hv.sl_inv
  refine ⟨_, _, rfl, e1, fun mx hmx hcap => ?_⟩
  have hb : (if mx = l then (base.map fun p => mkA p.1 p.2) else (base.map fun p => mkA p.1 p.2).map (·.add (l * sz))) = ((if mx = l then base else base.map fun p => (p.1, p.2 + l * sz)).map fun p => mkA p.1 p.2) := by
    split
    · rfl
    · cases base <;> simp [mkA_add]
  rw [hb]
  refine .sl _ _ _ _ _ _ _ (fun q => vs (l * sz + q)) (by omega) (fun hn => ?_) (fun i hi => e3 _ (by omega)) (fun b o e q hq => ?_) (fun i j c hi hc => ?_)
  · split at hn
    · omega
    · cases base with
      | none => have := e2 rfl; omega
      | some p => simp at hn
  · split at e
    · have : h - l = 0 := by omega
      rw [this] at hq; simp at hq
    · cases base with
      | none => simp at e
      | some p =>
        simp at e
        obtain ⟨rfl, rfl⟩ := e
        have hlt : l * sz + q < m * sz := by
          have : h * sz ≤ m * sz := Nat.mul_le_mul_right _ h2
          have h3 : (h - l) * sz = h * sz - l * sz := Nat.sub_mul ..
          omega
        have := e4 p.1 p.2 rfl _ hlt
        rwa [← Nat.add_assoc] at this
  · have := e5 (l + i) j c (by omega) hc
    rwa [show (l + i) * sz + j = l * sz + (i * sz + j) by rw [Nat.add_mul]; omega] at this
theorem byteEl_drop (s : List UInt8) (l h : Nat) (hh : h ≤ s.length) (hl : l ≤ h) : ∀ i, i < h - l → byteEl ((s.take h).drop l) i = byteEl s (l + i) := by
  intro i hi
  simp only [byteEl, List.getD_eq_getElem?_getD, List.getElem?_drop]
  rw [List.getElem?_take, if_pos (by omega)]
theorem VR.sl_congr {sz m : Nat} {el el' : Nat → AV} {o : Bool} {v : Value} (hv : VR G w ρ (.sl sz m el o) v) (h : ∀ i, i < m → el' i = el i) : VR G w ρ (.sl sz m el' o) v := by
  obtain ⟨base, cap, vs, rfl, e1, e2, e3, e4, e5⟩ := hv.sl_inv
  exact .sl _ _ _ _ _ _ _ vs e1 e2 (fun i hi => by rw [h i hi]; exact e3 i hi) e4 (fun i j c hi hc => e5 i j c hi (by rwa [h i hi] at hc))
theorem VR.bs_part {s : List UInt8} {o o' : Bool} {v : Value} (hv : VR G w ρ (.bs s o) v) {l h : Nat} (h1 : l ≤ h) (h2 : h ≤ s.length) :
    ∃ base cap, v = .slice base s.length cap ∧ s.length ≤ cap ∧ (∀ mx, h ≤ mx → mx ≤ cap → VR G w ρ (.bs ((s.take h).drop l) o') (.slice (if mx = l then base else base.map (·.add (l * 1))) (h - l) (mx - l))) := by
  obtain ⟨base, cap, e1, e2, e3⟩ := VR.slice_part (o' := o') hv.bs_inv h1 h2
  refine ⟨base, cap, e1, e2, fun mx a b => .bs _ _ _ _ ?_⟩
  have hl : ((s.take h).drop l).length = h - l := by simp; omega
  rw [hl]
  exact (e3 mx a b).sl_congr (byteEl_drop s l h h2 h1)
end Go.Am
set_option linter.unusedSectionVars false
set_option linter.unusedVariables false
set_option linter.unusedSimpArgs false
namespace Go.Am
open Go
variable [Tab]
variable {P : Program} {G : Gh} {w : World} {ρ : List Nat}

theorem Sp_full {G t a b n} : Sp G t a (.slice b n n) := by
  unfold Sp
  split
  · rename_i heq; injection heq with _ h1 h2; subst h1; subst h2; intro _ q h1 h2; omega
  · rename_i heq; injection heq with _ h1 h2; subst h1; subst h2; intro _ q h1 h2; omega
  · trivial
theorem slice_sound {t : TypeId} {x v : AV} {lo hi mx : Option AV} {c : Prop} {vx : Value} {rl rh rm : Option Value} (h : sliceE P t x lo hi mx = some (c, v)) (hc : c) (hx : VR G w ρ x vx)
    (hl : OptVR G w ρ lo rl) (hh : OptVR G w ρ hi rh) (hm : OptVR G w ρ mx rm) :
    ∃ v', (Instr.sliceAt t vx rl rh rm).run P w = .ok v' w ∧ VR G w ρ v v' ∧ ∀ T, SpV G T v v' := by
  unfold sliceE at h
  split at h
  · -- a string
    rename_i s hu
    cases rm with
    | some _ => exact hm.elim
    | none =>
      split at h
      · rename_i l h' e1 e2
        simp only [Option.some.injEq, Prod.mk.injEq] at h
        obtain ⟨rfl, rfl⟩ := h
        obtain ⟨h0, h1, h2⟩ := hc
        obtain rfl := hx.str_inv
        have hs : (ByteArray.mk s.toArray).size = s.length := by show s.toArray.size = _; simp
        have hb := bounds_none (P := P) (G := G) (w := w) (ρ := ρ) (b := false) (len := s.length) (cap := s.length) hl hh e1 e2 h0 h1 h2
        refine ⟨.string ⟨((s.take h'.toNat).drop l.toNat).toArray⟩, ?_, .str .., fun T => by simp [SpV, Sp]⟩
        have hext : (ByteArray.mk s.toArray).extract l.toNat h'.toNat = ⟨((s.take h'.toNat).drop l.toNat).toArray⟩ := by
          apply ByteArray.ext
          simp [ByteArray.data_extract, List.drop_take]
        simp only [Instr.sliceAt, Sem.run_bind, run_und hu, Result.andThen_ok, Instr.slice, Option.isSome, hs]
        simp [hb, hext]
      · simp at h
  · -- bytes
    rename_i e s o hu
    cases rm with
    | some _ => exact hm.elim
    | none =>
      split at h
      · rename_i l h' hz e1 e2
        simp only [Option.some.injEq, Prod.mk.injEq] at h
        obtain ⟨rfl, rfl⟩ := h
        obtain ⟨h0, h1, h2⟩ := hc
        obtain ⟨base, cap, rfl, hcap, hpart⟩ := VR.bs_part (o' := false) hx (show l.toNat ≤ h'.toNat by omega) (show h'.toNat ≤ s.length by omega)
        have hb := bounds_none (P := P) (G := G) (w := w) (ρ := ρ) (b := true) (len := s.length) (cap := cap) hl hh e1 e2 h0 h1 (by omega)
        refine ⟨_, ?_, hpart cap (by omega) (Nat.le_refl _), fun T => by simp [SpV, Sp]⟩
        simp only [Instr.sliceAt, Sem.run_bind, run_und hu, Result.andThen_ok, Instr.slice, hb, run_sizeOf hz, Sem.run_pure]
      · simp at h
  · -- elements
    rename_i e sz m el o hu
    cases rm with
    | some _ => exact hm.elim
    | none =>
      split at h
      · rename_i z l h' hz e1 e2
        simp only [cond_eq_ite] at h
        split at h
        · rename_i hq
          have hq := Nat.eq_of_beq_eq_true hq
          subst hq
          simp only [Option.some.injEq, Prod.mk.injEq] at h
          obtain ⟨rfl, rfl⟩ := h
          obtain ⟨h0, h1, h2⟩ := hc
          obtain ⟨base, cap, rfl, hcap, hpart⟩ := VR.slice_part (o' := false) hx (show l.toNat ≤ h'.toNat by omega) (show h'.toNat ≤ m by omega)
          have hb := bounds_none (P := P) (G := G) (w := w) (ρ := ρ) (b := true) (len := m) (cap := cap) hl hh e1 e2 h0 h1 (by omega)
          refine ⟨_, ?_, hpart cap (by omega) (Nat.le_refl _), fun T => by simp [SpV, Sp]⟩
          simp only [Instr.sliceAt, Sem.run_bind, run_und hu, Result.andThen_ok, Instr.slice, hb, run_sizeOf hz, Sem.run_pure]
        · simp at h
      · simp at h
  · -- a handle
    rename_i e id off m cp hu
    cases rm with
    | some _ => exact hm.elim
    | none =>
      split at h
      · rename_i z l h' hz e1 e2
        simp only [Option.some.injEq, Prod.mk.injEq] at h
        obtain ⟨rfl, rfl⟩ := h
        obtain ⟨h0, h1, h2, h3⟩ := hc
        obtain ⟨b, hr, rfl⟩ := hx.hs_inv
        have hb := bounds_none (P := P) (G := G) (w := w) (ρ := ρ) (b := true) (len := m) (cap := cp) hl hh e1 e2 h0 h2 h3
        refine ⟨.slice (some (mkA b (off + l.toNat * (z + 1)))) (h'.toNat - l.toNat) (cp - l.toNat), ?_, .hs _ _ _ _ _ _ hr, fun T => by simp [SpV, Sp]⟩
        simp only [Instr.sliceAt, Sem.run_bind, run_und hu, Result.andThen_ok, Instr.slice, hb, run_sizeOf hz, Sem.run_pure]
        rw [if_neg (by omega)]
        simp [mkA_add]
      · simp at h
  · -- an array
    rename_i m e id off hu
    cases rm with
    | some _ => exact hm.elim
    | none =>
      split at h
      · rename_i z l h' hz e1 e2
        simp only [Option.some.injEq, Prod.mk.injEq] at h
        obtain ⟨rfl, rfl⟩ := h
        obtain ⟨h0, h1, h2, h3⟩ := hc
        obtain ⟨b, hr, rfl⟩ := hx.ptr_inv
        have hb := bounds_none (P := P) (G := G) (w := w) (ρ := ρ) (b := false) (len := m) (cap := m) hl hh e1 e2 h0 h2 h3
        refine ⟨.slice (some (mkA b (off + l.toNat * (z + 1)))) (h'.toNat - l.toNat) (m - l.toNat), ?_, .hs _ _ _ _ _ _ hr, fun T => by simp [SpV, Sp]⟩
        simp only [Instr.sliceAt, Sem.run_bind, run_und hu, Result.andThen_ok, Instr.sureAddr, hb, run_sizeOf hz, Sem.run_pure]
        rw [if_neg (by omega)]
        simp [mkA_add]
      · simp at h
  · -- bytes, no room
    rename_i e s o k mx hu
    cases rm with
    | none => exact hm.elim
    | some rm =>
      obtain rfl := VR.int_inv hm
      split at h
      · rename_i l k2 h' hz e1
        simp only [Option.some.injEq, Prod.mk.injEq] at h
        obtain ⟨rfl, rfl⟩ := h
        obtain ⟨h0, h1, rfl, h2⟩ := hc
        cases rh with
        | none => exact hh.elim
        | some rh =>
          obtain rfl := VR.int_inv hh
          obtain ⟨base, cap, rfl, hcap, hpart⟩ := VR.bs_part (o' := true) hx (show l.toNat ≤ h'.toNat by omega) (show h'.toNat ≤ s.length by omega)
          have hb := bounds_max (P := P) (G := G) (w := w) (ρ := ρ) (b := true) (len := s.length) (cap := cap) (k := k2) (k2 := k) hl e1 h0 h1 (Int.le_refl _) (by omega)
          refine ⟨_, ?_, hpart h'.toNat (Nat.le_refl _) (by omega), fun T => SpV_of_Sp Sp_full (by simp)⟩
          simp only [Instr.sliceAt, Sem.run_bind, run_und hu, Result.andThen_ok, Instr.slice, hb, run_sizeOf hz, Sem.run_pure]
      · simp at h
  · rename_i e sz m el o k mx hu
    cases rm with
    | none => exact hm.elim
    | some rm =>
      obtain rfl := VR.int_inv hm
      split at h
      · rename_i z l k2 h' hz e1
        simp only [cond_eq_ite] at h
        split at h
        · rename_i hq
          have hq := Nat.eq_of_beq_eq_true hq
          subst hq
          simp only [Option.some.injEq, Prod.mk.injEq] at h
          obtain ⟨rfl, rfl⟩ := h
          obtain ⟨h0, h1, rfl, h2⟩ := hc
          cases rh with
          | none => exact hh.elim
          | some rh =>
            obtain rfl := VR.int_inv hh
            obtain ⟨base, cap, rfl, hcap, hpart⟩ := VR.slice_part (o' := true) hx (show l.toNat ≤ h'.toNat by omega) (show h'.toNat ≤ m by omega)
            have hb := bounds_max (P := P) (G := G) (w := w) (ρ := ρ) (b := true) (len := m) (cap := cap) (k := k2) (k2 := k) hl e1 h0 h1 (Int.le_refl _) (by omega)
            refine ⟨_, ?_, hpart h'.toNat (Nat.le_refl _) (by omega), fun T => SpV_of_Sp Sp_full (by simp)⟩
            simp only [Instr.sliceAt, Sem.run_bind, run_und hu, Result.andThen_ok, Instr.slice, hb, run_sizeOf hz, Sem.run_pure]
        · simp at h
      · simp at h
  · simp at h
end Go.Am
set_option linter.unusedSectionVars false
set_option linter.unusedVariables false
set_option linter.unusedSimpArgs false
namespace Go.Am
open Go
variable [Tab]
variable {P : Program} {G : Gh} {w : World} {ρ : List Nat}

theorem optVR {t : TypeId} {fr : Fr} {a : Act} (h : FR G w ρ fr a.tmps) (x : Option Operand) : OptVR G w ρ (x.map (opd P t fr)) (x.map a.eval) := by
  cases x with
  | none => trivial
  | some x => exact VR.opd h x
theorem isIface_run {t : TypeId} (h : isIface P t = some false) {x : Value} : (Instr.makeInterface t x).run P w = .ok (.iface t x) w := by
  unfold isIface at h
  split at h
  · simp at h
  · rename_i d hd hu
    simp only [Instr.makeInterface, Sem.run_bind, run_und hu, Result.andThen_ok]
    rfl
  · simp at h
theorem minMax_sound {mn : Bool} {x y v : AV} {vx vy : Value} (h : minMaxE mn x y = some v) (hx : VR G w ρ x vx) (hy : VR G w ρ y vy) {a b} :
    ∃ v', (if mn then Builtin.min_ a b #[vx, vy] else Builtin.max_ a b #[vx, vy]).run P w = .ok v' w ∧ VR G w ρ v v' ∧ nr v = true := by
  unfold minMaxE at h
  split at h
  · simp only [cond_eq_ite] at h
    split at h
    · rename_i hk
      simp only [sameK, decide_eq_true_eq] at hk
      subst hk
      simp only [Option.some.injEq] at h
      subst h
      obtain rfl := hx.int_inv; obtain rfl := hy.int_inv
      refine ⟨_, ?_, .int .., rfl⟩
      cases mn <;> simp [Builtin.min_, Builtin.max_, Builtin.min2, Builtin.max2, List.foldlM]
    · simp at h
  · simp at h
theorem nilCheck_sound {x v : AV} {vx : Value} (h : nilCheckE x = some v) (hx : VR G w ρ x vx) : (v = x ∧ nr v = true) ∧ ∀ ρo : Operand → Value, ∀ y o, o = Op.nilCheck y → ρo y = vx → (execOp ρo { (default : Oper) with op := o }).run P w = .ok (.value vx) w := by
  unfold nilCheckE at h
  split at h <;> simp only [Option.some.injEq, reduceCtorEq] at h <;> subst h <;> refine ⟨⟨rfl, rfl⟩, fun ρo y o ho hy => ?_⟩ <;> subst ho
  · obtain ⟨b, _, rfl⟩ := hx.ptr_inv; simp [execOp, hy]
  · obtain ⟨b, _, _, rfl, _⟩ := hx.cptr_inv; simp [execOp, hy]
  · obtain ⟨_, rfl, _⟩ := hx.iface_inv; simp [execOp, hy]
  · obtain ⟨_, rfl, _⟩ := hx.fn_inv; simp [execOp, hy]
theorem nr_or_un {v : AV} (h : nr v = true ∨ ∃ x, v = un x) (G : Gh) (T : Nat → Own) (x : Value) : SpV G T v x := by
  rcases h with h | ⟨y, rfl⟩
  · exact SpV_nr h
  · exact SpV_un ..
theorem partE_nr {t : TypeId} {cs : List AV} {o : Nat} {v : AV} (h : partE P t cs o = some v) : nr v = true ∨ ∃ x, v = un x := by
  unfold partE at h
  split at h
  · simp only [Option.some.injEq] at h; subst h; exact .inl rfl
  · obtain ⟨c, _, rfl⟩ := Option.map_eq_some_iff.1 h; exact .inr ⟨_, rfl⟩
  · simp at h
theorem varE_nr {t : TypeId} {cs : List AV} {o : Nat} {v : AV} (h : varE P t cs o = some v) : nr v = true ∨ ∃ x, v = un x := by
  unfold varE at h
  split at h
  · simp only [cond_eq_ite] at h
    split at h
    · simp only [Option.some.injEq] at h; subst h; exact .inl rfl
    · simp at h
  · obtain ⟨c, _, rfl⟩ := Option.map_eq_some_iff.1 h; exact .inr ⟨_, rfl⟩
  · simp at h
theorem tr_some {o : Option AV} {c : Prop} {v : AV} (h : tr o = some (c, v)) : o = some v := by
  unfold tr at h; split at h <;> simp_all
theorem evP_val {fr : Fr} {H : Heap} {o : Oper} {c : Prop} {v : AV} (h : evP P fr H o = some (c, v)) (hc : c) (a : Act) (hf : FR G w ρ fr a.tmps) (hb : BR G w ρ H) :
    ∃ v', (execOp a.eval o).run P w = .ok (.value v') w ∧ VR G w ρ v v' ∧ ∀ T, SpV G T v v' := by
  have od : ∀ t x, VR G w ρ (opd P t fr x) (a.eval x) := fun t x => VR.opd hf x
  unfold evP at h
  split at h
  · rename_i x ho
    simp only [Option.some.injEq, Prod.mk.injEq] at h; obtain ⟨rfl, rfl⟩ := h
    exact ⟨a.eval x, by simp [execOp, ho], (od ..).un, fun T => SpV_un ..⟩
  · rename_i x ho
    simp only [Option.some.injEq, Prod.mk.injEq] at h; obtain ⟨rfl, rfl⟩ := h
    exact ⟨a.eval x, by simp [execOp, ho], (od ..).un, fun T => SpV_un ..⟩
  · rename_i x y z ho
    split at h
    · rename_i g hg
      simp only [Option.some.injEq, Prod.mk.injEq] at h; obtain ⟨rfl, rfl⟩ := h
      have := od o.type x
      rw [hg] at this
      have := this.bool_inv
      cases g
      · exact ⟨a.eval z, by simp [execOp, ho, this, asBool], (od ..).un, fun T => SpV_un ..⟩
      · exact ⟨a.eval y, by simp [execOp, ho, this, asBool], (od ..).un, fun T => SpV_un ..⟩
    · simp at h
  · rename_i op t x y yt ho
    obtain ⟨v', h1, h2, h3⟩ := bin_sound (P := P) h hc (od t x) (od t y)
    refine ⟨v', ?_, h2, fun T => SpV_nr h3⟩
    simp only [execOp, ho]
    simp only [Sem.run_bind] at h1 ⊢
    rw [h1]; rfl
  · rename_i op t x ho
    have h := tr_some h
    obtain ⟨v', h1, h2⟩ := un_sound (P := P) h (od t x)
    refine ⟨v', by simp [execOp, ho, h1], h2, fun T => SpV_nr ?_⟩
    unfold unE at h; split at h <;> simp only [Option.some.injEq, reduceCtorEq] at h <;> subst h <;> rfl
  · rename_i s d x ho
    have h := tr_some h
    obtain ⟨v', h1, h2⟩ := conv_sound (P := P) h (od s x)
    refine ⟨v', by simp [execOp, ho, h1], h2, fun T => SpV_nr ?_⟩
    unfold convE at h; split at h
    · simp only [Option.some.injEq] at h; subst h; rfl
    · simp only [Option.some.injEq] at h; subst h; rfl
    · split at h
      · simp only [Option.some.injEq] at h; subst h; rfl
      · simp at h
    · simp at h
  · rename_i cl ho
    split at h
    · rename_i x t h1 h2 h3
      have h := tr_some h
      have e2 : cl.args = #[x] := by rw [← Array.toArray_toList (xs := cl.args), h2]
      have e3 : cl.argTypes = #[t] := by rw [← Array.toArray_toList (xs := cl.argTypes), h3]
      obtain ⟨v', k1, k2⟩ := len_sound (P := P) (ty := o.type) (ats := #[t]) (t := t) rfl h (od t x)
      refine ⟨v', by simp [execOp, ho, resolve, h1, e2, e3, invoke, builtin, k1], k2, fun T => SpV_nr ?_⟩
      unfold lenE at h; split at h <;> simp only [Option.some.injEq, reduceCtorEq] at h <;> subst h <;> rfl
    · rename_i x y t t2 h1 h2 h3
      have h := tr_some h
      have e2 : cl.args = #[x, y] := by rw [← Array.toArray_toList (xs := cl.args), h2]
      have e3 : cl.argTypes = #[t, t2] := by rw [← Array.toArray_toList (xs := cl.argTypes), h3]
      obtain ⟨v', k1, k2, k3⟩ := minMax_sound (P := P) (a := #[t, t2]) (b := o.type) h (od t x) (od t y)
      simp only [if_true] at k1
      exact ⟨v', by simp [execOp, ho, resolve, h1, e2, e3, invoke, builtin, k1], k2, fun T => SpV_nr k3⟩
    · rename_i x y t t2 h1 h2 h3
      have h := tr_some h
      have e2 : cl.args = #[x, y] := by rw [← Array.toArray_toList (xs := cl.args), h2]
      have e3 : cl.argTypes = #[t, t2] := by rw [← Array.toArray_toList (xs := cl.argTypes), h3]
      obtain ⟨v', k1, k2, k3⟩ := minMax_sound (P := P) (a := #[t, t2]) (b := o.type) h (od t x) (od t y)
      simp only [Bool.false_eq_true, if_false] at k1
      exact ⟨v', by simp [execOp, ho, resolve, h1, e2, e3, invoke, builtin, k1], k2, fun T => SpV_nr k3⟩
    · simp at h
  · rename_i t x i ho
    obtain ⟨v', h1, h2⟩ := index_sound (P := P) h hc (od t x) (od t i)
    refine ⟨v', by simp [execOp, ho, h1], h2, fun T => nr_or_un ?_ G T v'⟩
    unfold indexE at h; split at h
    · simp only [Option.some.injEq, Prod.mk.injEq] at h; obtain ⟨_, rfl⟩ := h; exact .inl rfl
    · split at h
      · simp only [Option.some.injEq, Prod.mk.injEq] at h; obtain ⟨_, rfl⟩ := h; exact .inr ⟨_, rfl⟩
      · simp at h
    · simp at h
  · rename_i t x i ho
    obtain ⟨v', h1, h2⟩ := indexAddr_sound (P := P) h hc (od t x) (od t i)
    refine ⟨v', by simp [execOp, ho, h1], h2, fun T => nr_or_un ?_ G T v'⟩
    refine .inl ?_
    unfold indexAddrE at h; split at h
    · split at h <;> simp only [Option.some.injEq, Prod.mk.injEq, reduceCtorEq] at h; obtain ⟨_, rfl⟩ := h; rfl
    · split at h
      · simp only [cond_eq_ite] at h
        split at h <;> simp only [Option.some.injEq, Prod.mk.injEq, reduceCtorEq] at h; obtain ⟨_, rfl⟩ := h; rfl
      · simp at h
    · split at h <;> simp only [Option.some.injEq, Prod.mk.injEq, reduceCtorEq] at h; obtain ⟨_, rfl⟩ := h; rfl
    · split at h <;> simp only [Option.some.injEq, Prod.mk.injEq, reduceCtorEq] at h; obtain ⟨_, rfl⟩ := h; rfl
    · simp at h
  · rename_i t x ho
    have h := tr_some h
    obtain ⟨v', h1, h2⟩ := load_sound (P := P) h hb (od t x)
    refine ⟨v', by simp [execOp, ho, h1], h2, fun T => nr_or_un ?_ G T v'⟩
    unfold loadE at h; split at h
    · exact varE_nr h
    · obtain ⟨blk, _, h⟩ := Option.bind_eq_some_iff.1 h; exact varE_nr h
    · simp at h
  · rename_i s x f ho
    have h := tr_some h
    obtain ⟨v', h1, h2⟩ := fieldAddr_sound (P := P) h (od s x)
    refine ⟨v', by simp [execOp, ho, h1], h2, fun T => SpV_nr ?_⟩
    unfold fieldAddrE at h; split at h
    · split at h <;> simp only [Option.some.injEq, reduceCtorEq] at h; subst h; rfl
    · split at h
      · simp only [cond_eq_ite] at h
        split at h
        · split at h
          · simp only [Option.some.injEq] at h; subst h; rfl
          · obtain ⟨c, _, h⟩ := Option.bind_eq_some_iff.1 h
            split at h <;> simp only [Option.some.injEq, reduceCtorEq] at h; subst h; rfl
          · simp at h
        · simp at h
      · simp at h
    · simp at h
  · rename_i s x f ho
    have h := tr_some h
    obtain ⟨v', h1, h2⟩ := field_sound (P := P) h (od s x)
    refine ⟨v', by simp [execOp, ho, h1], h2, fun T => nr_or_un ?_ G T v'⟩
    unfold fieldE at h; split at h
    · exact partE_nr h
    · simp at h
  · rename_i x i ho
    have h := tr_some h
    obtain ⟨v', h1, h2⟩ := extract_sound (P := P) h (od o.type x)
    refine ⟨v', by simp [execOp, ho, h1], h2, fun T => nr_or_un ?_ G T v'⟩
    unfold extractE at h; split at h
    · obtain ⟨c, _, rfl⟩ := Option.map_eq_some_iff.1 h; exact .inr ⟨_, rfl⟩
    · simp at h
  · rename_i x ho
    have h := tr_some h
    obtain ⟨⟨h1, h2⟩, h3⟩ := nilCheck_sound (P := P) h (od o.type x)
    refine ⟨a.eval x, ?_, h1 ▸ od .., fun T => SpV_nr h2⟩
    have := h3 a.eval x _ rfl rfl
    simpa [execOp, ho] using this
  · rename_i t x lo hi mx ho
    obtain ⟨v', h1, h2, h3⟩ := slice_sound (P := P) h hc (od t x) (optVR hf lo) (optVR hf hi) (optVR hf mx)
    exact ⟨v', by simp [execOp, ho, h1], h2, h3⟩
  · rename_i t x ho
    split at h
    · rename_i hi
      simp only [Option.some.injEq, Prod.mk.injEq] at h; obtain ⟨rfl, rfl⟩ := h
      exact ⟨.iface t (a.eval x), by simp [execOp, ho, isIface_run hi], .iface _ _ _ _ (od ..).un, fun T => by simp [SpV, Sp]⟩
    · simp at h
  · rename_i fn first cap ho
    split at h
    · rename_i g hfirst
      simp only [Option.some.injEq, Prod.mk.injEq] at h; obtain ⟨rfl, rfl⟩ := h
      have e : first = #[] := by rw [← Array.toArray_toList (xs := first), hfirst]
      refine ⟨.func (.func g) #[] (cap.toList.map a.eval).toArray, ?_, .fn _ _ _ _ (by simp) (fun q c v h1 h2 => ?_), fun T => by simp [SpV, Sp]⟩
      · simp [execOp, ho, e, Instr.makeFunc]
        apply Array.ext'
        simp
      · rw [List.getElem?_map, Option.map_eq_some_iff] at h1 h2
        obtain ⟨x, hx, rfl⟩ := h1
        obtain ⟨y, hy, rfl⟩ := h2
        rw [hx] at hy; simp at hy; subst hy
        exact (od ..).un
    · simp at h
  · simp at h
theorem OpSem.pure {fr : Fr} {H : Heap} {o : Oper} {c : Prop} {v : AV} (h : evP P fr H o = some (c, v)) (hc : c) : OpSem P o fr H v fr H := by
  intro b a w G ρ n ops i rest k cs ho hw hi
  obtain ⟨v', hr, hv, hs⟩ := evP_val h hc a hi.fr hi.br
  exact ⟨v', w, G, [], .one (step_value ho hw hr), Trans.refl _ _, by rw [List.append_nil]; exact ⟨hi, hv, hs _⟩⟩
end Go.Am
set_option linter.unusedSectionVars false
set_option linter.unusedVariables false
set_option linter.unusedSimpArgs false
namespace Go.Am
open Go
variable [Tab]
variable {P : Program} {G : Gh} {w : World} {ρ : List Nat} {n : Nat} {fr : Fr} {H : Heap} {tmps : Array Value}

/-! ### 1. New names of owners -/
/-- 'f' moves what is owned, and nothing else -/
structure ReTag (f : Own → Own) : Prop where
  frz : ∀ x, f x = .frz ↔ x = .frz
  ctx : ∀ x, f x = .ctx ↔ x = .ctx
  free : f .free = .free
  mine : ∀ x, (f x).mine = true → x.mine = true
def reG (f : Own → Own) (G : Gh) : Gh := fun b o => f (G b o)
theorem ReTag.keeps {f} (h : ReTag f) (G : Gh) (w : World) : Keeps G w (reG f G) w := fun b o e => ⟨(h.frz _).2 e, rfl⟩
theorem ReTag.trans {f} (h : ReTag f) (G : Gh) (w : World) : Trans G w (reG f G) w :=
  ⟨rfl, rfl, rfl, Nat.le_refl _, fun _ _ e => (h.frz _).2 e, fun _ _ e => (h.ctx _).2 e, fun _ _ _ => ⟨rfl, rfl⟩, fun _ _ _ => rfl, fun _ _ e1 e2 => absurd ((h.frz _).1 e2) e1⟩
theorem ReTag.wi {f} (h : ReTag f) (k : WI G w) : WI (reG f G) w :=
  ⟨fun b o e => k.own b o (h.mine _ e), fun b o e => by unfold reG; rw [k.old b o e, h.free], fun b o v e => k.one b o v (e.imp (h.frz _).1 (h.mine _)), k.tab.trans (h.trans G w)⟩
theorem ReTag.br {f} (h : ReTag f) (hc : ∀ id, f (.cell id) = .cell id) (hs : ∀ id j, f (.spare id j) = .spare id j) (k : BR G w ρ H) : BR (reG f G) w ρ H :=
  ⟨k.len, fun id b blk j c h1 h2 h3 => by
    obtain ⟨e, v, h4, h5, h6⟩ := k.cell id b blk j c h1 h2 h3
    exact ⟨by unfold reG; rw [e, hc], v, h4, h5.keep (h.keeps _ _), h6.map fun b o e => by unfold reG; rw [e, hs]⟩⟩

/-- slot t's room is the pending value's -/
def takeT (t : Nat) : Own → Own
  | .slot i c => if i = t then .res c else .slot i c
  | x => x
theorem takeT_re (t : Nat) : ReTag (takeT t) := by
  constructor
  · intro x; cases x <;> simp [takeT]; split <;> simp
  · intro x; cases x <;> simp [takeT]; split <;> simp
  · rfl
  · intro x; cases x <;> simp [takeT, Own.mine]
theorem FR.take {t : Nat} {a : AV} (h : FR G w ρ fr tmps) (hv : ∀ v, VR G w ρ (fr t) v → VR G w ρ a v) (hs : ∀ G T v, SpV G T a v) : FR (reG (takeT t) G) w ρ (fr.set t a) tmps := by
  intro i
  have hi := h i
  unfold Fr.set
  cases hb : Nat.beq i t with
  | true =>
    have := Nat.eq_of_beq_eq_true hb
    subst this
    exact ⟨(hv _ hi.1).keep ((takeT_re i).keeps _ _), hs ..⟩
  | false =>
    have : i ≠ t := fun e => by rw [e, Nat.beq_refl] at hb; cases hb
    exact ⟨hi.1.keep ((takeT_re t).keeps _ _), hi.2.map fun c b o e => by unfold reG takeT; rw [e]; simp [this]⟩
theorem OpSem.take {o : Oper} {t : Nat} (ho : o.op = .move (.tmp t) ∨ o.op = .assign (.tmp t)) : OpSem P o fr H (fr t) (fr.set t (un (fr t))) H := by
  intro b a w G ρ n ops i rest k cs hoi hw hi
  have hr : (execOp a.eval o).run P w = .ok (.value (a.tmps.getD t undef)) w := by
    rcases ho with ho | ho <;> simp [execOp, ho, Act.eval]
  have ht := hi.fr t
  refine ⟨_, w, reG (takeT t) G, [], .one (step_value hoi hw hr), (takeT_re t).trans .., ?_⟩
  rw [List.append_nil]
  exact ⟨⟨hi.size, hi.fr.take (fun v h => h.un) (fun G T v => SpV_un ..), (takeT_re t).br (fun _ => rfl) (fun _ _ => rfl) hi.br, (takeT_re t).wi hi.wi⟩, ht.1.keep ((takeT_re t).keeps _ _), ht.2.map fun c b o e => by unfold reG takeT; rw [e]; simp⟩
/-- slot t's room number c is the pending value's -/
def takeC (t c : Nat) : Own → Own
  | .slot i d => if i = t ∧ d = c then .res 0 else .slot i d
  | x => x
theorem takeC_re (t c : Nat) : ReTag (takeC t c) := by
  constructor
  · intro x; cases x <;> simp [takeC]; split <;> simp
  · intro x; cases x <;> simp [takeC]; split <;> simp
  · rfl
  · intro x; cases x <;> simp [takeC, Own.mine]
theorem OpSem.takeX {o : Oper} {t j : Nat} {vs : List AV} {v : AV} (ho : o.op = .extract (.tmp t) j) (hf : fr t = .tup vs) (hj : vs[j]? = some v) (hv : ∀ ws, v ≠ .tup ws) :
    OpSem P o fr H v (fr.set t (.tup (vs.set j (un1 v)))) H := by
  intro b a w G ρ n ops i rest k cs hoi hw hi
  have ht := hi.fr t
  rw [hf] at ht
  obtain ⟨ws, e, hl, hvs⟩ := ht.1.tup_inv
  have hjl : j < ws.length := by rw [hl]; exact (List.getElem?_eq_some_iff.1 hj).1
  have hr : (execOp a.eval o).run P w = .ok (.value ws[j]) w := by
    simp [execOp, ho, Act.eval, Instr.extract, ← Array.getD_eq_getD_getElem?, e, hjl]
  have hsp : Sp G (.slot t j) v ws[j] := by
    have := ht.2
    rw [e] at this
    exact this j v ws[j] hj (by simp [hjl])
  refine ⟨_, w, reG (takeC t j) G, [], .one (step_value hoi hw hr), (takeC_re t j).trans .., ?_⟩
  rw [List.append_nil]
  have hk := (takeC_re t j).keeps G w
  refine ⟨⟨hi.size, ?_, (takeC_re t j).br (fun _ => rfl) (fun _ _ => rfl) hi.br, (takeC_re t j).wi hi.wi⟩, (hvs j v _ hj (List.getElem?_eq_getElem hjl)).keep hk, SpV_of_Sp ?_ hv⟩
  · intro i
    have hi := hi.fr i
    unfold Fr.set
    cases hb : Nat.beq i t with
    | true =>
      have := Nat.eq_of_beq_eq_true hb
      subst this
      rw [e]
      refine ⟨.tup _ _ _ (by simp [hl]) fun q c v' h1 h2 => ?_, fun c x y h1 h2 => ?_⟩
      · rw [List.getElem?_set] at h1
        split at h1
        · rename_i hq
          split at h1
          · simp at h1; subst h1; subst hq
            exact ((hvs j v _ hj h2).keep hk).un1
          · simp at h1
        · exact (hvs _ _ _ h1 h2).keep hk
      · rw [List.getElem?_set] at h1
        split at h1
        · split at h1
          · simp at h1; subst h1; exact Sp_un1 ..
          · simp at h1
        · rename_i hq
          have := ht.2
          rw [e] at this
          exact (this c x y h1 h2).map fun b o e => by unfold reG takeC; rw [e]; simp; exact fun h => hq h.symm
    | false =>
      have : i ≠ t := fun e => by rw [e, Nat.beq_refl] at hb; cases hb
      exact ⟨hi.1.keep hk, hi.2.map fun c b o e => by unfold reG takeC; rw [e]; simp [this]⟩
  · exact hsp.map fun b o e => by unfold reG takeC; rw [e]; simp

/-! ### 2. A new block -/
def allocG (G : Gh) (r m : Nat) (tag : Nat → Own) : Gh := fun b o => if b = r then (if o < m then tag o else .free) else G b o
theorem alloc_heap (w : World) (o : Obj) : (w.alloc o).heap = w.heap.push o := rfl
theorem cell_alloc_new (w : World) (cs : Array Value) (e : TypeId) (fz : Nat × Nat) (o : Nat) : (w.alloc (.cells cs e fz)).cell? (mkA w.heap.size o) = cs[o]? := by
  simp [World.cell?, mkA, alloc_heap]
theorem frozen_alloc_new (w : World) (cs : Array Value) (e : TypeId) (fz : Nat × Nat) (o : Nat) : (w.alloc (.cells cs e fz)).frozen? (mkA w.heap.size o) = (decide (fz.1 ≤ o) && decide (o < fz.2)) := by
  simp [World.frozen?, mkA, alloc_heap]
  rfl
theorem cell_alloc_old (w : World) (ob : Obj) {b : Nat} (h : b < w.heap.size) (o : Nat) : (w.alloc ob).cell? (mkA b o) = w.cell? (mkA b o) := by
  simp [World.cell?, alloc_heap, mkA, Array.getElem?_push, Nat.ne_of_lt h]
theorem frozen_alloc_old (w : World) (ob : Obj) {b : Nat} (h : b < w.heap.size) (o : Nat) : (w.alloc ob).frozen? (mkA b o) = w.frozen? (mkA b o) := by
  simp [World.frozen?, alloc_heap, mkA, Array.getElem?_push, Nat.ne_of_lt h]
theorem heap_alloc_lt (w : World) (ob : Obj) {b : Nat} (h : b < w.heap.size) : (w.alloc ob).heap[b]? = w.heap[b]? := by
  simp [alloc_heap, Array.getElem?_push, Nat.ne_of_lt h]
theorem WI.lt (h : WI G w) {b o : Nat} (hf : G b o ≠ .free) : b < w.heap.size := by
  rcases Nat.lt_or_ge b w.heap.size with h1 | h1
  · exact h1
  · exact absurd (h.old b o h1) hf
theorem alloc_keeps (h : WI G w) (ob : Obj) (m : Nat) (tag : Nat → Own) : Keeps G w (allocG G w.heap.size m tag) (w.alloc ob) := fun b o e => by
  have hb := h.lt (b := b) (o := o) (by rw [e]; simp)
  exact ⟨by unfold allocG; rw [if_neg (Nat.ne_of_lt hb)]; exact e, cell_alloc_old w ob hb o⟩
theorem alloc_trans (h : WI G w) (ob : Obj) (m : Nat) (tag : Nat → Own) (hz : ∀ o, o < m → tag o = .frz → (w.alloc ob).frozen? (mkA w.heap.size o) = false := by intro o _ _; rw [frozen_alloc_new]; simp) : Trans G w (allocG G w.heap.size m tag) (w.alloc ob) where
  os := rfl
  tape := rfl
  output := rfl
  size := by simp [alloc_heap]
  frz b o e := (alloc_keeps h ob m tag b o e).1
  ctx b o e := by
    have hb := h.lt (b := b) (o := o) (by rw [e]; simp)
    unfold allocG; rw [if_neg (Nat.ne_of_lt hb)]; exact e
  cell b o e := by
    have hb := h.lt (b := b) (o := o) (by rcases e with e | e <;> rw [e] <;> simp)
    exact ⟨cell_alloc_old w ob hb o, frozen_alloc_old w ob hb o⟩
  blk b hb _ := heap_alloc_lt w ob hb
  fz b o e1 e2 := by
    unfold allocG at e2
    split at e2
    · rename_i hb
      subst hb
      split at e2
      · rename_i ho; exact hz o ho e2
      · cases e2
    · exact absurd e2 e1
theorem alloc_old {r m : Nat} {tag : Nat → Own} {b o : Nat} {t : Own} (h : WI G w) (hr : r = w.heap.size) (e : G b o = t) (ht : t ≠ .free) : allocG G r m tag b o = t := by
  have hb := h.lt (b := b) (o := o) (by rw [e]; exact ht)
  unfold allocG; rw [if_neg (by omega)]; exact e
theorem alloc_wi (h : WI G w) (cs : Array Value) (e : TypeId) (tag : Nat → Own) (h1 : ∀ v, v ∈ cs.toList → v.oneCell' = true) (fz : Nat × Nat := (0, 0)) (hz : ∀ o, o < cs.size → (decide (fz.1 ≤ o) && decide (o < fz.2)) = false := by intros; simp) :
    WI (allocG G w.heap.size cs.size tag) (w.alloc (.cells cs e fz)) where
  own b o hm := by
    by_cases hb : b = w.heap.size
    · subst hb
      simp only [allocG, if_true] at hm
      split at hm
      · rename_i ho
        exact ⟨by rw [cell_alloc_new]; simpa using ho, by rw [frozen_alloc_new]; exact hz o ho⟩
      · simp [Own.mine] at hm
    · simp only [allocG, if_neg hb] at hm
      have hl := h.lt (b := b) (o := o) (by intro e; rw [e] at hm; simp [Own.mine] at hm)
      have := h.own b o hm
      rw [cell_alloc_old _ _ hl, frozen_alloc_old _ _ hl]; exact this
  old b o hb := by
    have hb2 : w.heap.size < b := by simp [alloc_heap] at hb; omega
    simp only [allocG, if_neg (Nat.ne_of_gt hb2)]
    exact h.old b o (Nat.le_of_lt hb2)
  one b o v hm hc := by
    by_cases hb : b = w.heap.size
    · subst hb
      rw [cell_alloc_new] at hc
      exact h1 v (by rw [Array.mem_toList_iff]; exact Array.mem_of_getElem? hc)
    · simp only [allocG, if_neg hb] at hm
      have hl := h.lt (b := b) (o := o) (by intro e; rw [e] at hm; simp [Own.mine] at hm)
      rw [cell_alloc_old _ _ hl] at hc
      exact h.one b o v hm hc
  tab := h.tab.trans (alloc_trans h _ _ tag (fun o ho _ => by rw [frozen_alloc_new]; exact hz o ho))
theorem alloc_fr (h : WI G w) (k : FR G w ρ fr tmps) (ob : Obj) (m : Nat) (tag : Nat → Own) (ρ2 : List Nat) : FR (allocG G w.heap.size m tag) (w.alloc ob) (ρ ++ ρ2) fr tmps := fun i =>
  ⟨((k i).1.keep (alloc_keeps h _ _ _)).app, (k i).2.map fun c b o e => alloc_old h rfl e (by simp)⟩
theorem alloc_br (h : WI G w) (k : BR G w ρ H) (ob : Obj) (m : Nat) (tag : Nat → Own) : BR (allocG G w.heap.size m tag) (w.alloc ob) ρ H :=
  ⟨k.len, fun id b blk j c h1 h2 h3 => by
    obtain ⟨e, v, h4, h5, h6⟩ := k.cell id b blk j c h1 h2 h3
    have hb := h.lt (b := b) (o := j) (by rw [e]; simp)
    exact ⟨alloc_old h rfl e (by simp), v, by rw [cell_alloc_old _ _ hb]; exact h4, h5.keep (alloc_keeps h _ _ _), h6.map fun b o e => alloc_old h rfl e (by simp)⟩⟩
end Go.Am
set_option linter.unusedSectionVars false
set_option linter.unusedVariables false
set_option linter.unusedSimpArgs false
namespace Go.Am
open Go
variable [Tab]
variable {P : Program} {G : Gh} {w : World} {ρ : List Nat} {n : Nat} {fr : Fr} {H : Heap} {tmps : Array Value}

theorem alloc_vrs (h : WI G w) {cs : List AV} {vs : List Value} (k : VRs G w ρ cs vs) (ob : Obj) (m : Nat) (tag : Nat → Own) (ρ2 : List Nat) : VRs (allocG G w.heap.size m tag) (w.alloc ob) (ρ ++ ρ2) cs vs :=
  ⟨k.1, fun q c v h1 h2 => ((k.2 q c v h1 h2).keep (alloc_keeps h _ _ _)).app⟩
theorem newBlock {cs : List AV} {vs : List Value} {e : TypeId} (hi : Inv G w ρ n fr H tmps) (hv : VRs G w ρ cs vs) (h1 : ∀ v, v ∈ vs → v.oneCell' = true)
    (hs : ∀ (q : Nat) (c : AV) (v : Value), cs[q]? = some c → vs[q]? = some v → ∀ G t, Sp G t c v) :
    InvV (allocG G w.heap.size vs.length fun _ => .cell H.length) (w.alloc (.cells vs.toArray e)) (ρ ++ [w.heap.size]) n fr (H ++ [cs]) tmps (.ptr H.length 0) (.pointer (some (mkA w.heap.size 0))) := by
  have hw := hi.wi
  have hlen := hi.br.len
  refine ⟨⟨hi.size, alloc_fr hw hi.fr _ _ _ _, ⟨by simp [hlen], ?_⟩, ?_⟩, .ptr _ _ _ _ (by rw [hlen]; simp), by simp [SpV, Sp]⟩
  · intro id b blk j c k1 k2 k3
    rcases Nat.lt_or_ge id ρ.length with hid | hid
    · rw [List.getElem?_append_left hid] at k1
      rw [List.getElem?_append_left (by omega)] at k2
      obtain ⟨e1, v, e2, e3, e4⟩ := (alloc_br hw hi.br (.cells vs.toArray e) vs.length fun _ => .cell H.length).cell id b blk j c k1 k2 k3
      exact ⟨e1, v, e2, e3.app, e4⟩
    · rw [List.getElem?_append_right hid] at k1
      rw [List.getElem?_append_right (by omega)] at k2
      have e0 : id - ρ.length = 0 := by have := (List.getElem?_eq_some_iff.1 k1).1; simp at this; omega
      rw [e0] at k1
      rw [hlen, e0] at k2
      simp only [List.getElem?_cons_zero, Option.some.injEq] at k1 k2
      subst k1; subst k2
      have hj : j < vs.length := by rw [hv.1]; exact (List.getElem?_eq_some_iff.1 k3).1
      have hidh : id = H.length := by omega
      refine ⟨by simp [allocG, hj, hidh], vs[j], by rw [cell_alloc_new]; simp [hj], ?_, hs j c _ k3 (List.getElem?_eq_getElem hj) _ _⟩
      exact (alloc_vrs hw hv _ _ _ _).2 j c _ k3 (List.getElem?_eq_getElem hj)
  · have := alloc_wi (G := G) hw vs.toArray e (fun _ => .cell H.length) (by simpa using h1)
    simpa using this
/-- the types of a type's cells -/
def leafT (P : Program) : Nat → TypeId → List TypeId
  | 0, _ => []
  | d + 1, t => match P.underlying t with
    | some (.struct fs) => fs.toList.flatMap fun f => leafT P d f.type
    | some (.array m e) => (List.replicate m (leafT P d e)).flatten
    | _ => [t]
def ofVals (P : Program) : List TypeId → List Value → List AV
  | t :: ts, v :: vs => ofVal P t v :: ofVals P ts vs
  | _, _ => []
/-- the cells of a type's zero value -/
def zeroE (P : Program) (t : TypeId) : Option (List AV) :=
  match P.info? t with
  | some i => match i.zero with
    | some z => let ts := leafT P 20 t
      bif Nat.beq ts.length z.cells.toList.length && z.cells.toList.all (·.oneCell') && Nat.beq z.cells.size i.size then some (ofVals P ts z.cells.toList) else none
    | none => none
  | none => none
theorem ofVals_length (P : Program) : ∀ (ts : List TypeId) (vs : List Value), ts.length = vs.length → (ofVals P ts vs).length = vs.length
  | [], [], _ => rfl
  | t :: ts, v :: vs, h => by simp [ofVals, ofVals_length P ts vs (by simpa using h)]
theorem ofVals_at (P : Program) : ∀ (ts : List TypeId) (vs : List Value) (q : Nat) (c : AV) (v : Value), (ofVals P ts vs)[q]? = some c → vs[q]? = some v → ∃ t, c = ofVal P t v
  | [], vs, q, c, v, h, _ => by simp [ofVals] at h
  | t :: ts, [], q, c, v, h, _ => by simp [ofVals] at h
  | t :: ts, x :: vs, 0, c, v, h, h2 => by simp [ofVals] at h h2; subst h; subst h2; exact ⟨t, rfl⟩
  | t :: ts, x :: vs, q + 1, c, v, h, h2 => ofVals_at P ts vs q c v (by simpa [ofVals] using h) (by simpa using h2)
theorem Sp_ofVal (P : Program) (t : TypeId) (G : Gh) (T : Own) (v : Value) : Sp G T (ofVal P t v) v := by
  unfold Am.ofVal
  split <;> simp [Sp]
theorem zero_sound {t : TypeId} {cs : List AV} (h : zeroE P t = some cs) : ∃ (z : Value) (vs : List Value) (i : TypeInfo), P.info? t = some i ∧ i.zero = some z ∧ z.cells = vs.toArray ∧ i.size = vs.length ∧ (∀ v, v ∈ vs → v.oneCell' = true) ∧
    (∀ G w ρ, VRs G w ρ cs vs) ∧ (∀ (q : Nat) (c : AV) (v : Value), cs[q]? = some c → vs[q]? = some v → ∀ G t, Sp G t c v) := by
  unfold zeroE at h
  split at h
  · rename_i i hi
    split at h
    · rename_i z hz
      simp only [cond_eq_ite] at h
      split at h
      · rename_i hq
        simp only [Bool.and_eq_true, List.all_eq_true] at hq
        obtain ⟨⟨h1, h2⟩, h3⟩ := hq
        have h1 := Nat.eq_of_beq_eq_true h1
        have h3 := Nat.eq_of_beq_eq_true h3
        simp only [Option.some.injEq] at h
        subst h
        refine ⟨z, z.cells.toList, i, hi, hz, by simp, by simp [h3], h2, fun G w ρ => ⟨(ofVals_length P _ _ h1).symm, fun q c v e1 e2 => ?_⟩, fun q c v e1 e2 G T => ?_⟩
        · obtain ⟨t, rfl⟩ := ofVals_at P _ _ q c v e1 e2
          exact VR.ofVal ..
        · obtain ⟨t, rfl⟩ := ofVals_at P _ _ q c v e1 e2
          exact Sp_ofVal ..
      · simp at h
    · simp at h
  · simp at h
theorem OpSem.alloc {o : Oper} {t : TypeId} {cs : List AV} (ho : o.op = .alloc t) (hz : zeroE P t = some cs) : OpSem P o fr H (.ptr H.length 0) fr (H ++ [cs]) := by
  intro b a w G ρ n ops i rest k cs' hoi hw hi
  obtain ⟨z, vs, inf, h1, h2, h3, h4, h5, h6, h7⟩ := zero_sound hz
  have hr : (execOp a.eval o).run P w = .ok (.value (.pointer (some (mkA w.heap.size 0)))) (w.alloc (.cells vs.toArray t)) := by
    simp [execOp, ho, Instr.alloc, zeroValue, run_ti h1, h2, newVar, newRow, h3]; rfl
  exact ⟨_, _, _, [w.heap.size], .one (step_value hoi hw hr), alloc_trans hi.wi .., newBlock hi (h6 G w ρ) h5 h7⟩
/-- may it be one cell's value? -/
def isCell : AV → Bool
  | .agg _ => false
  | .tup _ => false
  | .bad => false
  | _ => true
theorem VR.cell {c : AV} {v : Value} (h : VR G w ρ c v) (hc : isCell c = true) : v.oneCell' = true := by
  cases h <;> first | rfl | (simp [isCell] at hc; done) | skip
  rename_i h
  cases h; rfl
theorem VR.cells {x : AV} {v : Value} (h : VR G w ρ x v) (hx : ∀ vs, x ≠ .tup vs) (hb : x ≠ .bad) : VRs G w ρ x.cells v.cells.toList := by
  by_cases hc : isCell x = true
  · have h1 := h.cell hc
    have e1 : x.cells = [x] := by cases x <;> first | rfl | simp [isCell] at hc
    have e2 : v.cells = #[v] := by cases v <;> first | rfl | simp [Value.oneCell'] at h1
    rw [e1, e2]
    exact ⟨rfl, fun q c v' h1 h2 => by
      have : q = 0 := by have := (List.getElem?_eq_some_iff.1 h1).1; simpa using this
      subst this
      simp at h1 h2; subst h1; subst h2; exact h⟩
  · cases x <;> first | (simp [isCell] at hc; done) | exact absurd rfl (hx _) | exact absurd rfl hb | skip
    obtain ⟨vs, rfl, hl, hv⟩ := h.agg_inv
    exact ⟨by simpa [AV.cells, Value.cells] using hl, by simpa [AV.cells, Value.cells] using hv⟩
theorem VRs.un1 {cs : List AV} {vs : List Value} (h : VRs G w ρ cs vs) : VRs G w ρ (cs.map un1) vs :=
  ⟨by simpa using h.1, fun q c v h1 h2 => by
    rw [List.getElem?_map, Option.map_eq_some_iff] at h1
    obtain ⟨x, h1, rfl⟩ := h1
    exact (h.2 q x v h1 h2).un1⟩
theorem VRs.cell {cs : List AV} {vs : List Value} (h : VRs G w ρ cs vs) (hc : cs.all isCell = true) : ∀ v, v ∈ vs → v.oneCell' = true := by
  intro v hv
  obtain ⟨q, hq, rfl⟩ := List.mem_iff_getElem.1 hv
  have hq2 : q < cs.length := by rw [← h.1]; exact hq
  have := h.2 q cs[q] vs[q] (List.getElem?_eq_getElem hq2) (List.getElem?_eq_getElem hq)
  exact this.cell ((List.all_eq_true.1 hc) _ (List.getElem_mem hq2))
def notTB : AV → Bool
  | .tup _ => false
  | .bad => false
  | _ => true
theorem notTB_ne {x : AV} (h : notTB x = true) : (∀ vs, x ≠ .tup vs) ∧ x ≠ .bad := by
  cases x <;> simp_all [notTB]
theorem OpSem.box {o : Oper} {t : TypeId} {x : Operand} {a : AV} (ho : o.op = .box t x) (ha : opd P t fr x = a) (h1 : notTB a = true) (h2 : a.cells.all isCell = true) :
    OpSem P o fr H (.ptr H.length 0) fr (H ++ [a.cells.map un1]) := by
  intro b act w G ρ n ops i rest k cs' hoi hw hi
  have hv := VR.opd (P := P) (t := t) hi.fr x
  rw [ha] at hv
  have hvs := hv.cells (notTB_ne h1).1 (notTB_ne h1).2
  have hr : (execOp act.eval o).run P w = .ok (.value (.pointer (some (mkA w.heap.size 0)))) (w.alloc (.cells (act.eval x).cells.toList.toArray t)) := by
    simp [execOp, ho, Instr.box, newVar, newRow]; rfl
  exact ⟨_, _, _, [w.heap.size], .one (step_value hoi hw hr), alloc_trans hi.wi .., newBlock hi hvs.un1 (hvs.cell h2) (fun q c v e1 e2 G T => by
    rw [List.getElem?_map, Option.map_eq_some_iff] at e1
    obtain ⟨y, _, rfl⟩ := e1
    exact Sp_un1 ..)⟩
end Go.Am
