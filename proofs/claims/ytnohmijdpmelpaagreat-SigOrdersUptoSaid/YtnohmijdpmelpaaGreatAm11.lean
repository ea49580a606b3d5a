/- The abstract machine: a pure operation as a step. -/
import Derived.Test.YtnohmijdpmelpaaGreatAm10
set_option linter.unusedSectionVars false
set_option linter.unusedVariables false
set_option linter.unusedSimpArgs false
namespace Go.Am
open Go
variable [Tab]
variable {P : Program} {G : Gh} {w : World} {ρ : List Nat}

theorem optVR {t : TypeId} {fr : Fr} {a : Act} (h : FR G w ρ fr a.tmps) (x : Option Operand) : OptVR G w ρ (x.map (opd P t fr)) (x.map a.eval) := by
  cases x with
  | none => trivial
  | some x => exact VR.opd h x
theorem isIface_run {t : TypeId} (h : isIface P t = some false) {x : Value} : (Instr.makeInterface t x).run P w = .ok (.iface t x) w := by
  unfold isIface at h
  split at h
  · simp at h
  · rename_i d hd hu
    simp only [Instr.makeInterface, Sem.run_bind, run_und hu, Result.andThen_ok]
    rfl
  · simp at h
theorem minMax_sound {mn : Bool} {x y v : AV} {vx vy : Value} (h : minMaxE mn x y = some v) (hx : VR G w ρ x vx) (hy : VR G w ρ y vy) {a b} :
    ∃ v', (if mn then Builtin.min_ a b #[vx, vy] else Builtin.max_ a b #[vx, vy]).run P w = .ok v' w ∧ VR G w ρ v v' ∧ nr v = true := by
  unfold minMaxE at h
  split at h
  · simp only [cond_eq_ite] at h
    split at h
    · rename_i hk
      simp only [sameK, decide_eq_true_eq] at hk
      subst hk
      simp only [Option.some.injEq] at h
      subst h
      obtain rfl := hx.int_inv; obtain rfl := hy.int_inv
      refine ⟨_, ?_, .int .., rfl⟩
      cases mn <;> simp [Builtin.min_, Builtin.max_, Builtin.min2, Builtin.max2, List.foldlM]
    · simp at h
  · simp at h
theorem nilCheck_sound {x v : AV} {vx : Value} (h : nilCheckE x = some v) (hx : VR G w ρ x vx) : (v = x ∧ nr v = true) ∧ ∀ ρo : Operand → Value, ∀ y o, o = Op.nilCheck y → ρo y = vx → (execOp ρo { (default : Oper) with op := o }).run P w = .ok (.value vx) w := by
  unfold nilCheckE at h
  split at h <;> simp only [Option.some.injEq, reduceCtorEq] at h <;> subst h <;> refine ⟨⟨rfl, rfl⟩, fun ρo y o ho hy => ?_⟩ <;> subst ho
  · obtain ⟨b, _, rfl⟩ := hx.ptr_inv; simp [execOp, hy]
  · obtain ⟨b, _, _, rfl, _⟩ := hx.cptr_inv; simp [execOp, hy]
  · obtain ⟨_, rfl, _⟩ := hx.iface_inv; simp [execOp, hy]
  · obtain ⟨_, rfl, _⟩ := hx.fn_inv; simp [execOp, hy]
theorem nr_or_un {v : AV} (h : nr v = true ∨ ∃ x, v = un x) (G : Gh) (T : Nat → Own) (x : Value) : SpV G T v x := by
  rcases h with h | ⟨y, rfl⟩
  · exact SpV_nr h
  · exact SpV_un ..
theorem partE_nr {t : TypeId} {cs : List AV} {o : Nat} {v : AV} (h : partE P t cs o = some v) : nr v = true ∨ ∃ x, v = un x := by
  unfold partE at h
  split at h
  · simp only [Option.some.injEq] at h; subst h; exact .inl rfl
  · obtain ⟨c, _, rfl⟩ := Option.map_eq_some_iff.1 h; exact .inr ⟨_, rfl⟩
  · simp at h
theorem varE_nr {t : TypeId} {cs : List AV} {o : Nat} {v : AV} (h : varE P t cs o = some v) : nr v = true ∨ ∃ x, v = un x := by
  unfold varE at h
  split at h
  · simp only [cond_eq_ite] at h
    split at h
    · simp only [Option.some.injEq] at h; subst h; exact .inl rfl
    · simp at h
  · obtain ⟨c, _, rfl⟩ := Option.map_eq_some_iff.1 h; exact .inr ⟨_, rfl⟩
  · simp at h
theorem tr_some {o : Option AV} {c : Prop} {v : AV} (h : tr o = some (c, v)) : o = some v := by
  unfold tr at h; split at h <;> simp_all
theorem evP_val {fr : Fr} {H : Heap} {o : Oper} {c : Prop} {v : AV} (h : evP P fr H o = some (c, v)) (hc : c) (a : Act) (hf : FR G w ρ fr a.tmps) (hb : BR G w ρ H) :
    ∃ v', (execOp a.eval o).run P w = .ok (.value v') w ∧ VR G w ρ v v' ∧ ∀ T, SpV G T v v' := by
  have od : ∀ t x, VR G w ρ (opd P t fr x) (a.eval x) := fun t x => VR.opd hf x
  unfold evP at h
  split at h
  · rename_i x ho
    simp only [Option.some.injEq, Prod.mk.injEq] at h; obtain ⟨rfl, rfl⟩ := h
    exact ⟨a.eval x, by simp [execOp, ho], (od ..).un, fun T => SpV_un ..⟩
  · rename_i x ho
    simp only [Option.some.injEq, Prod.mk.injEq] at h; obtain ⟨rfl, rfl⟩ := h
    exact ⟨a.eval x, by simp [execOp, ho], (od ..).un, fun T => SpV_un ..⟩
  · rename_i x y z ho
    split at h
    · rename_i g hg
      simp only [Option.some.injEq, Prod.mk.injEq] at h; obtain ⟨rfl, rfl⟩ := h
      have := od o.type x
      rw [hg] at this
      have := this.bool_inv
      cases g
      · exact ⟨a.eval z, by simp [execOp, ho, this, asBool], (od ..).un, fun T => SpV_un ..⟩
      · exact ⟨a.eval y, by simp [execOp, ho, this, asBool], (od ..).un, fun T => SpV_un ..⟩
    · simp at h
  · rename_i op t x y yt ho
    obtain ⟨v', h1, h2, h3⟩ := bin_sound (P := P) h hc (od t x) (od t y)
    refine ⟨v', ?_, h2, fun T => SpV_nr h3⟩
    simp only [execOp, ho]
    simp only [Sem.run_bind] at h1 ⊢
    rw [h1]; rfl
  · rename_i op t x ho
    have h := tr_some h
    obtain ⟨v', h1, h2⟩ := un_sound (P := P) h (od t x)
    refine ⟨v', by simp [execOp, ho, h1], h2, fun T => SpV_nr ?_⟩
    unfold unE at h; split at h <;> simp only [Option.some.injEq, reduceCtorEq] at h <;> subst h <;> rfl
  · rename_i s d x ho
    have h := tr_some h
    obtain ⟨v', h1, h2⟩ := conv_sound (P := P) h (od s x)
    refine ⟨v', by simp [execOp, ho, h1], h2, fun T => SpV_nr ?_⟩
    unfold convE at h; split at h
    · simp only [Option.some.injEq] at h; subst h; rfl
    · simp only [Option.some.injEq] at h; subst h; rfl
    · split at h
      · simp only [Option.some.injEq] at h; subst h; rfl
      · simp at h
    · simp at h
  · rename_i cl ho
    split at h
    · rename_i x t h1 h2 h3
      have h := tr_some h
      have e2 : cl.args = #[x] := by rw [← Array.toArray_toList (xs := cl.args), h2]
      have e3 : cl.argTypes = #[t] := by rw [← Array.toArray_toList (xs := cl.argTypes), h3]
      obtain ⟨v', k1, k2⟩ := len_sound (P := P) (ty := o.type) (ats := #[t]) (t := t) rfl h (od t x)
      refine ⟨v', by simp [execOp, ho, resolve, h1, e2, e3, invoke, builtin, k1], k2, fun T => SpV_nr ?_⟩
      unfold lenE at h; split at h <;> simp only [Option.some.injEq, reduceCtorEq] at h <;> subst h <;> rfl
    · rename_i x y t t2 h1 h2 h3
      have h := tr_some h
      have e2 : cl.args = #[x, y] := by rw [← Array.toArray_toList (xs := cl.args), h2]
      have e3 : cl.argTypes = #[t, t2] := by rw [← Array.toArray_toList (xs := cl.argTypes), h3]
      obtain ⟨v', k1, k2, k3⟩ := minMax_sound (P := P) (a := #[t, t2]) (b := o.type) h (od t x) (od t y)
      simp only [if_true] at k1
      exact ⟨v', by simp [execOp, ho, resolve, h1, e2, e3, invoke, builtin, k1], k2, fun T => SpV_nr k3⟩
    · rename_i x y t t2 h1 h2 h3
      have h := tr_some h
      have e2 : cl.args = #[x, y] := by rw [← Array.toArray_toList (xs := cl.args), h2]
      have e3 : cl.argTypes = #[t, t2] := by rw [← Array.toArray_toList (xs := cl.argTypes), h3]
      obtain ⟨v', k1, k2, k3⟩ := minMax_sound (P := P) (a := #[t, t2]) (b := o.type) h (od t x) (od t y)
      simp only [Bool.false_eq_true, if_false] at k1
      exact ⟨v', by simp [execOp, ho, resolve, h1, e2, e3, invoke, builtin, k1], k2, fun T => SpV_nr k3⟩
    · simp at h
  · rename_i t x i ho
    obtain ⟨v', h1, h2⟩ := index_sound (P := P) h hc (od t x) (od t i)
    refine ⟨v', by simp [execOp, ho, h1], h2, fun T => nr_or_un ?_ G T v'⟩
    unfold indexE at h; split at h
    · simp only [Option.some.injEq, Prod.mk.injEq] at h; obtain ⟨_, rfl⟩ := h; exact .inl rfl
    · split at h
      · simp only [Option.some.injEq, Prod.mk.injEq] at h; obtain ⟨_, rfl⟩ := h; exact .inr ⟨_, rfl⟩
      · simp at h
    · simp at h
  · rename_i t x i ho
    obtain ⟨v', h1, h2⟩ := indexAddr_sound (P := P) h hc (od t x) (od t i)
    refine ⟨v', by simp [execOp, ho, h1], h2, fun T => nr_or_un ?_ G T v'⟩
    refine .inl ?_
    unfold indexAddrE at h; split at h
    · split at h <;> simp only [Option.some.injEq, Prod.mk.injEq, reduceCtorEq] at h; obtain ⟨_, rfl⟩ := h; rfl
    · split at h
      · simp only [cond_eq_ite] at h
        split at h <;> simp only [Option.some.injEq, Prod.mk.injEq, reduceCtorEq] at h; obtain ⟨_, rfl⟩ := h; rfl
      · simp at h
    · split at h <;> simp only [Option.some.injEq, Prod.mk.injEq, reduceCtorEq] at h; obtain ⟨_, rfl⟩ := h; rfl
    · split at h <;> simp only [Option.some.injEq, Prod.mk.injEq, reduceCtorEq] at h; obtain ⟨_, rfl⟩ := h; rfl
    · simp at h
  · rename_i t x ho
    have h := tr_some h
    obtain ⟨v', h1, h2⟩ := load_sound (P := P) h hb (od t x)
    refine ⟨v', by simp [execOp, ho, h1], h2, fun T => nr_or_un ?_ G T v'⟩
    unfold loadE at h; split at h
    · exact varE_nr h
    · obtain ⟨blk, _, h⟩ := Option.bind_eq_some_iff.1 h; exact varE_nr h
    · simp at h
  · rename_i s x f ho
    have h := tr_some h
    obtain ⟨v', h1, h2⟩ := fieldAddr_sound (P := P) h (od s x)
    refine ⟨v', by simp [execOp, ho, h1], h2, fun T => SpV_nr ?_⟩
    unfold fieldAddrE at h; split at h
    · split at h <;> simp only [Option.some.injEq, reduceCtorEq] at h; subst h; rfl
    · split at h
      · simp only [cond_eq_ite] at h
        split at h
        · split at h
          · simp only [Option.some.injEq] at h; subst h; rfl
          · obtain ⟨c, _, h⟩ := Option.bind_eq_some_iff.1 h
            split at h <;> simp only [Option.some.injEq, reduceCtorEq] at h; subst h; rfl
          · simp at h
        · simp at h
      · simp at h
    · simp at h
  · rename_i s x f ho
    have h := tr_some h
    obtain ⟨v', h1, h2⟩ := field_sound (P := P) h (od s x)
    refine ⟨v', by simp [execOp, ho, h1], h2, fun T => nr_or_un ?_ G T v'⟩
    unfold fieldE at h; split at h
    · exact partE_nr h
    · simp at h
  · rename_i x i ho
    have h := tr_some h
    obtain ⟨v', h1, h2⟩ := extract_sound (P := P) h (od o.type x)
    refine ⟨v', by simp [execOp, ho, h1], h2, fun T => nr_or_un ?_ G T v'⟩
    unfold extractE at h; split at h
    · obtain ⟨c, _, rfl⟩ := Option.map_eq_some_iff.1 h; exact .inr ⟨_, rfl⟩
    · simp at h
  · rename_i x ho
    have h := tr_some h
    obtain ⟨⟨h1, h2⟩, h3⟩ := nilCheck_sound (P := P) h (od o.type x)
    refine ⟨a.eval x, ?_, h1 ▸ od .., fun T => SpV_nr h2⟩
    have := h3 a.eval x _ rfl rfl
    simpa [execOp, ho] using this
  · rename_i t x lo hi mx ho
    obtain ⟨v', h1, h2, h3⟩ := slice_sound (P := P) h hc (od t x) (optVR hf lo) (optVR hf hi) (optVR hf mx)
    exact ⟨v', by simp [execOp, ho, h1], h2, h3⟩
  · rename_i t x ho
    split at h
    · rename_i hi
      simp only [Option.some.injEq, Prod.mk.injEq] at h; obtain ⟨rfl, rfl⟩ := h
      exact ⟨.iface t (a.eval x), by simp [execOp, ho, isIface_run hi], .iface _ _ _ _ (od ..).un, fun T => by simp [SpV, Sp]⟩
    · simp at h
  · rename_i fn first cap ho
    split at h
    · rename_i hfirst
      simp only [Option.some.injEq, Prod.mk.injEq] at h; obtain ⟨rfl, rfl⟩ := h
      have e : first = #[] := by rw [← Array.toArray_toList (xs := first), hfirst]
      refine ⟨.func fn #[] (cap.toList.map a.eval).toArray, ?_, .fn _ _ _ _ (by simp) (fun q c v h1 h2 => ?_), fun T => by simp [SpV, Sp]⟩
      · simp [execOp, ho, e, Instr.makeFunc]
        apply Array.ext'
        simp
      · rw [List.getElem?_map, Option.map_eq_some_iff] at h1 h2
        obtain ⟨x, hx, rfl⟩ := h1
        obtain ⟨y, hy, rfl⟩ := h2
        rw [hx] at hy; simp at hy; subst hy
        exact (od ..).un
    · simp at h
  · simp at h
theorem OpSem.pure {fr : Fr} {H : Heap} {o : Oper} {c : Prop} {v : AV} (h : evP P fr H o = some (c, v)) (hc : c) : OpSem P o fr H v fr H := by
  intro b a w G ρ n ops i rest k cs ho hw hi
  obtain ⟨v', hr, hv, hs⟩ := evP_val h hc a hi.fr hi.br
  exact ⟨v', w, G, [], .one (step_value ho hw hr), Trans.refl _ _, by rw [List.append_nil]; exact ⟨hi, hv, hs _⟩⟩
end Go.Am
