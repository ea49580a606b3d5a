/- The abstract machine: steps that make slices. -/
import Derived.Test.YtnohmijdpmelpaaGreatAm16
set_option linter.unusedSectionVars false
set_option linter.unusedVariables false
set_option linter.unusedSimpArgs false
namespace Go.Am
open Go
variable [Tab]
variable {P : Program} {G G' : Gh} {w : World} {ρ : List Nat} {n : Nat} {fr : Fr} {H : Heap} {tmps : Array Value}

theorem src_sl {sz m : Nat} {el : Nat → AV} {o : Bool} {x : Value} (hw : WI G w) (h : VR G w ρ (.sl sz m el o) x) : ∃ news, Src P G w sz m el x news := by
  obtain ⟨base, cap, vs, rfl, e1, e2, e3, e4, e5⟩ := h.sl_inv
  cases base with
  | none =>
    have : m = 0 := by have := e2 rfl; omega
    subst this
    exact ⟨[], rfl, rfl, rfl, by simp, by simp, fun i hi => absurd hi (Nat.not_lt_zero _), fun i j c v hi => absurd hi (Nat.not_lt_zero _)⟩
  | some p =>
    obtain ⟨b, off⟩ := p
    refine ⟨(List.range (m * sz)).map vs, rfl, ?_, ?_, by simp, fun v hv => ?_, e3, fun i j c v h1 h2 h3 => ?_⟩
    · have := run_loadCells (P := P) w (mkA b off) (m * sz) vs (fun q hq => by rw [mkA_add]; exact (e4 b off rfl q hq).2)
      simpa [Builtin.firstCells] using this
    · have := run_loadCells (P := P) w.drew (mkA b off) (m * sz) vs (fun q hq => by rw [mkA_add]; exact (e4 b off rfl q hq).2)
      simpa [Builtin.firstCells] using this
    · obtain ⟨q, hq, rfl⟩ := List.mem_map.1 hv
      have := e4 b off rfl q (by simpa using hq)
      exact hw.one _ _ _ (.inl this.1) this.2
    · have hj : j < sz := by rw [← e3 i h1]; exact (List.getElem?_eq_some_iff.1 h2).1
      have hq : i * sz + j < m * sz := by
        have : (i + 1) * sz ≤ m * sz := Nat.mul_le_mul_right _ h1
        rw [Nat.succ_mul] at this; omega
      simp [hq] at h3
      subst h3
      exact e5 i j c h1 h2
theorem src_str {s : List UInt8} {x : Value} (h : VR G w ρ (.str s) x) : ∃ news, Src P G w 1 s.length (byteEl s) x news := by
  obtain rfl := h.str_inv
  have hs : (ByteArray.mk s.toArray).size = s.length := by show s.toArray.size = _; simp
  have hx : ((ByteArray.mk s.toArray).extract 0 s.length).data = s.toArray := by
    simp [ByteArray.data_extract]
  refine ⟨s.map fun b => .int .u8 b.toNat, by simp [Builtin.lenOf, hs], ?_, ?_, by simp, by simp [Value.oneCell'], fun i _ => rfl, fun i j c v h1 h2 h3 => ?_⟩
  · simp only [Builtin.firstCells, hx, Sem.run_pure]; simp
  · simp only [Builtin.firstCells, hx, Sem.run_pure]; simp
  · have hj : j = 0 := by have := (List.getElem?_eq_some_iff.1 h2).1; simpa [byteEl, AV.cells] using this
    subst hj
    simp [byteEl, AV.cells] at h2
    subst h2
    simp [h1] at h3
    subst h3
    simp only [List.getD_eq_getElem?_getD, List.getElem?_eq_getElem h1, Option.getD_some]
    exact .int ..
theorem src_hs {id off m cp b : Nat} {blk : List AV} (hw : WI G w) (hb : BR G w ρ H) (hr : ρ[id]? = some b) (hk : H[id]? = some blk) (hl : off + m ≤ blk.length) (hp : ∀ q, off ≤ q → q < off + m → pf (blk.getD q .bad) = true) :
    ∃ news, Src P G w 1 m (fun i => blk.getD (off + i) .bad) (.slice (some (mkA b off)) m cp) news := by
  have hc : ∀ q : Nat, ∃ v, q < m → G b (off + q) = .cell id ∧ w.cell? (mkA b (off + q)) = some v ∧ VR G w ρ (blk.getD (off + q) .bad) v := by
    intro q
    by_cases hq : q < m
    · have h1 : off + q < blk.length := by omega
      obtain ⟨e1, v, e2, e3, _⟩ := hb.cell id b blk (off + q) blk[off + q] hr hk (List.getElem?_eq_getElem h1)
      exact ⟨v, fun _ => ⟨e1, e2, by simpa [List.getD_eq_getElem?_getD, List.getElem?_eq_getElem h1] using e3⟩⟩
    · exact ⟨undef, fun h => absurd h hq⟩
  refine ⟨(List.range m).map fun q => Classical.choose (hc q), rfl, ?_, ?_, by simp, fun v hv => ?_, fun i hi => ?_, fun i j c v h1 h2 h3 => ?_⟩
  · have := run_loadCells (P := P) w (mkA b off) m (fun q => Classical.choose (hc q)) (fun q hq => by rw [mkA_add]; exact (Classical.choose_spec (hc q) hq).2.1)
    simpa [Builtin.firstCells] using this
  · have := run_loadCells (P := P) w.drew (mkA b off) m (fun q => Classical.choose (hc q)) (fun q hq => by rw [mkA_add]; exact (Classical.choose_spec (hc q) hq).2.1)
    simpa [Builtin.firstCells] using this
  · obtain ⟨q, hq, rfl⟩ := List.mem_map.1 hv
    have := Classical.choose_spec (hc q) (by simpa using hq)
    exact hw.one _ _ _ (.inr (by rw [this.1]; rfl)) this.2.1
  · have := hp (off + i) (by omega) (by omega)
    show (AV.cells _).length = 1
    generalize blk.getD (off + i) .bad = c at this ⊢
    cases c <;> first | rfl | simp [pf] at this
  · have hpc := hp (off + i) (by omega) (by omega)
    have hj : c = blk.getD (off + i) .bad ∧ j = 0 := by
      revert h2
      show (AV.cells _)[j]? = some c → _
      generalize blk.getD (off + i) .bad = d at hpc ⊢
      intro h2
      have : d.cells = [d] := by cases d <;> first | rfl | simp [pf] at hpc
      rw [this] at h2
      have hj := (List.getElem?_eq_some_iff.1 h2).1
      have : j = 0 := by simpa using hj
      subst this
      simp at h2
      exact ⟨h2.symm, rfl⟩
    obtain ⟨e1, e2⟩ := hj
    have hm : i * 1 + j < m := by omega
    have e3 : i * 1 + j = i := by omega
    rw [List.getElem?_map, List.getElem?_range hm, e3] at h3
    simp only [Option.map_some, Option.some.injEq] at h3
    rw [e1, ← h3]
    exact (Classical.choose_spec (hc i) h1).2.2.pf hpc []
/-- a slice type's element type, its cells, its bytes -/
def slT (P : Program) (t : TypeId) : Option (TypeId × Nat × Nat) :=
  match P.underlying t with
  | some (.slice e) => match P.info? e, zeroE P e with
    | some i, some _ => litN i.size fun z => some (e, z, i.bytes)
    | _, _ => none
  | _ => none
theorem slT_some {t e sz by_ : Nat} (h : slT P t = some (e, sz, by_)) : P.underlying t = some (.slice e) ∧ ∃ i zs, P.info? e = some i ∧ zeroE P e = some zs ∧ i.size = sz ∧ i.bytes = by_ := by
  unfold slT at h
  split at h
  · rename_i e' hu
    split at h
    · rename_i i zs hi hz
      rw [litN_eq] at h
      simp only [Option.some.injEq, Prod.mk.injEq] at h
      obtain ⟨rfl, rfl, rfl⟩ := h
      exact ⟨hu, i, zs, hi, hz, rfl, rfl⟩
    · simp at h
  · simp at h
theorem bs_append {s s2 : List UInt8} {v : Value} (h : VR G w ρ (.sl 1 (s.length + s2.length) (apEl s.length (byteEl s) (byteEl s2)) true) v) : VR G w ρ (.bs (s ++ s2) true) v := by
  refine .bs _ _ _ _ ?_
  have hl : (s ++ s2).length = s.length + s2.length := by simp
  rw [hl]
  have := h.pf rfl []
  refine this.sl_congr fun i hi => ?_
  rcases Nat.lt_or_ge i s.length with h | h
  · rw [apEl_lt h]; simp [byteEl, List.getD_eq_getElem?_getD, List.getElem?_append_left h]
  · rw [apEl_ge h]; simp [byteEl, List.getD_eq_getElem?_getD, List.getElem?_append_right h]
theorem Sp_bs_sl {t : Own} {s : List UInt8} {m : Nat} {el : Nat → AV} {v : Value} : Sp G t (.bs s true) v ↔ Sp G t (.sl 1 m el true) v := by
  cases v with
  | slice a l c => cases a <;> simp [Sp]
  | _ => simp [Sp]
theorem append_exec {o : Oper} {tt t2 : TypeId} {t : Nat} {x : Operand} {a : Act} (ho : o.op = .call { callee := .builtin .append, args := #[.tmp t, x], argTypes := #[tt, t2] }) {v' : Value} {w' : World}
    (h : (Builtin.append_ #[tt, t2] o.type #[a.tmps.getD t undef, a.eval x]).run P w = .ok v' w') : (execOp a.eval o).run P w = .ok (.value v') w' := by
  simp only [execOp, ho, resolve, invoke, builtin]
  have : (#[Operand.tmp t, x].map a.eval) = #[a.tmps.getD t undef, a.eval x] := by simp [Act.eval]
  rw [this]
  simp only [Sem.run_bind, Sem.run_pure, Result.andThen_ok, h]
theorem OpSem.append {o : Oper} {tt t2 e sz by_ t len m : Nat} {x : Operand} {el el2 : Nat → AV} {o2 : Bool} (ho : o.op = .call { callee := .builtin .append, args := #[.tmp t, x], argTypes := #[tt, t2] })
    (ht : slT P tt = some (e, sz, by_)) (h2 : isSS P t2 = true) (hD : fr t = .sl sz len el true) (hX : opd P t2 fr x = .sl sz m el2 o2) (hb : (len + m) * by_ ≤ 140737488355328) (hl : len + m ≤ 140737488355328) :
    OpSem P o fr H (.sl sz (len + m) (apEl len el el2) true) (fr.set t (un (fr t))) H := by
  intro b a w G ρ n ops i rest k cs hoi hw hi
  obtain ⟨hu, inf, zs, h3, h4, h5, rfl⟩ := slT_some ht
  have hd := hi.fr t
  have hx := VR.opd (P := P) (t := t2) hi.fr x
  rw [hX] at hx
  obtain ⟨news, hs⟩ := src_sl (P := P) hi.wi hx
  have hd1 := hd.1
  have hd2 := hd.2
  rw [hD] at hd1 hd2
  obtain ⟨v', w', G', h6, h7, h8⟩ := append_core (ty := o.type) hi hu h3 h5 h4 h2 hd1 hd2 hs hb hl
  exact ⟨v', w', G', [], .one (step_value hoi hw (append_exec ho h6)), h7, by rw [List.append_nil]; exact h8⟩
theorem OpSem.appendB {o : Oper} {tt t2 e by_ t : Nat} {x : Operand} {s s2 : List UInt8} (ho : o.op = .call { callee := .builtin .append, args := #[.tmp t, x], argTypes := #[tt, t2] })
    (ht : slT P tt = some (e, 1, by_)) (h2 : isSS P t2 = true) (hD : fr t = .bs s true) (hX : (∃ o2, opd P t2 fr x = .bs s2 o2) ∨ opd P t2 fr x = .str s2) (hb : (s.length + s2.length) * by_ ≤ 140737488355328) (hl : s.length + s2.length ≤ 140737488355328) :
    OpSem P o fr H (.bs (s ++ s2) true) (fr.set t (un (fr t))) H := by
  intro b a w G ρ n ops i rest k cs hoi hw hi
  obtain ⟨hu, inf, zs, h3, h4, h5, rfl⟩ := slT_some ht
  have hd := hi.fr t
  have hx := VR.opd (P := P) (t := t2) hi.fr x
  obtain ⟨news, hs⟩ : ∃ news, Src P G w 1 s2.length (byteEl s2) (a.eval x) news := by
    rcases hX with ⟨o2, hX⟩ | hX
    · rw [hX] at hx; exact src_sl (P := P) hi.wi hx.bs_inv
    · rw [hX] at hx; exact src_str hx
  have hd1 := hd.1
  have hd2 := hd.2
  rw [hD] at hd1 hd2
  have hd3 : Sp G (.slot t 0) (.sl 1 s.length (byteEl s) true) (a.tmps.getD t undef) := Sp_bs_sl.1 hd2
  obtain ⟨v', w', G', h6, h7, h8⟩ := append_core (ty := o.type) hi hu h3 h5 h4 h2 (hd1.bs_inv.of_nil (ρ := ρ)) hd3 hs hb hl
  refine ⟨v', w', G', [], .one (step_value hoi hw (append_exec ho h6)), h7, ?_⟩
  rw [List.append_nil]
  exact ⟨h8.inv, bs_append h8.vr, SpV_of_Sp (Sp_bs_sl.2 h8.sp) (by simp)⟩
end Go.Am
