/- The abstract machine: literals of slices, 'make', bytes out of strings, 'copy'. -/
import Derived.Test.YtnohmijdpmelpaaGreatAm17
set_option linter.unusedSectionVars false
set_option linter.unusedVariables false
set_option linter.unusedSimpArgs false
namespace Go.Am
open Go
variable [Tab]
variable {P : Program} {G G' : Gh} {w : World} {ρ : List Nat} {n : Nat} {fr : Fr} {H : Heap} {tmps : Array Value}

def elOf (ag : Bool) (sz : Nat) (cs : List AV) : Nat → AV := fun i => bif ag then .agg ((cs.drop (i * sz)).take sz) else cs.getD i .bad
theorem pf_isCell {c : AV} (h : pf c = true) : isCell c = true := by cases c <;> simp_all [pf, isCell]
/-- cells that are all laid, as a row's elements -/
theorem rowOf {cs : List AV} {vs : List Value} {m sz : Nat} {ag : Bool} (h : VRs G w ρ cs vs) (hp : cs.all pf = true) (hl : cs.length = m * sz) (ha : ag = true ∨ sz = 1) :
    (∀ v, v ∈ vs → v.oneCell' = true) ∧ (∀ i, i < m → (elOf ag sz cs i).cells.length = sz) ∧
    (∀ (i j : Nat) (c : AV) (v : Value), i < m → (elOf ag sz cs i).cells[j]? = some c → vs[i * sz + j]? = some v → VR G w [] c v) := by
  have hcell : cs.all isCell = true := by
    rw [List.all_eq_true] at hp ⊢
    exact fun x hx => pf_isCell (hp x hx)
  have hcl : ∀ i, i < m → (elOf ag sz cs i).cells = (cs.drop (i * sz)).take sz := by
    intro i hi
    cases ag with
    | true => rfl
    | false =>
      have hs := ha.resolve_left (by simp)
      subst hs
      have hi2 : i < cs.length := by omega
      have hq : pf cs[i] = true := (List.all_eq_true.1 hp) _ (List.getElem_mem hi2)
      have e1 : cs.getD i .bad = cs[i] := by simp [List.getD_eq_getElem?_getD, List.getElem?_eq_getElem hi2]
      have e2 : (cs[i]).cells = [cs[i]] := by
        generalize cs[i] = c at hq
        cases c <;> first | rfl | simp [pf] at hq
      simp only [elOf, cond_false, e1, e2, Nat.mul_one]
      rw [List.drop_eq_getElem_cons hi2]
      rfl
  refine ⟨h.cell hcell, fun i hi => ?_, fun i j c v hi hc hv => ?_⟩
  · rw [hcl i hi]
    have : (i + 1) * sz ≤ m * sz := Nat.mul_le_mul_right _ hi
    rw [Nat.succ_mul] at this
    simp; omega
  · rw [hcl i hi, List.getElem?_take] at hc
    split at hc
    · rw [List.getElem?_drop] at hc
      exact (h.2 _ c v hc hv).pf ((List.all_eq_true.1 hp) _ (List.mem_of_getElem? hc)) []
    · simp at hc
def litE (P : Program) (t : TypeId) (len : Nat) (parts : List (Nat × AV)) : Option (TypeId × Bool × Nat × List AV) :=
  match slT P t with
  | some (e, sz, _) => match isAggT P e, fillE (fun i => some (i * sz, sz)) (List.replicate (len * sz) .bad) parts with
    | some ag, some cs => bif cs.all pf && Nat.beq cs.length (len * sz) && (ag || Nat.beq sz 1) && Nat.ble (len * sz) 16777216 then some (e, ag, sz, cs) else none
    | _, _ => none
  | none => none
theorem lit_core {t len : Nat} {parts : List (Nat × AV)} {rp : List (Nat × Value)} {e sz : Nat} {ag : Bool} {cs : List AV} (hi : Inv G w ρ n fr H tmps) (h : litE P t len parts = some (e, ag, sz, cs)) (hm : rp.map (·.1) = parts.map (·.1))
    (hv : ∀ (q : Nat) (p : Nat × AV) (r : Nat × Value), parts[q]? = some p → rp[q]? = some r → VR G w ρ p.2 r.2) :
    ∃ v' w' G', (Instr.buildSlice t len rp.toArray).run P w = .ok v' w' ∧ Trans G w G' w' ∧ InvV G' w' ρ n fr H tmps (.sl sz len (elOf ag sz cs) true) v' := by
  unfold litE at h
  split at h
  · rename_i e' sz' by_ hs
    obtain ⟨hu, inf, zs, h1, h2, h3, h4⟩ := slT_some hs
    subst h3
    obtain ⟨z, zv, inf', q1, q2, q3, q4, q5, _⟩ := zero_sound h2
    rw [h1] at q1; simp at q1; subst q1
    split at h
    · rename_i ag' cs' ha hf
      simp only [cond_eq_ite] at h
      split at h
      · rename_i hq
        simp only [Bool.and_eq_true, Bool.or_eq_true] at hq
        obtain ⟨⟨⟨p1, p2⟩, p3⟩, p4⟩ := hq
        have p2 := Nat.eq_of_beq_eq_true p2
        have p4 := Nat.le_of_ble_eq_true p4
        simp only [Option.some.injEq, Prod.mk.injEq] at h
        obtain ⟨rfl, rfl, rfl, rfl⟩ := h
        let zr : Array Value := if len * inf.size = 0 then #[] else z.cells
        obtain ⟨res, e1, e2⟩ := fill_sound (G := G) (w := w) (ρ := ρ) _ parts rp (List.replicate (len * inf.size) .bad) ((Array.range (len * inf.size)).map (zr[· % zr.size]!)) cs' hf hm hv
          ⟨by simp, fun q c v k1 _ => by rw [List.getElem?_replicate] at k1; split at k1 <;> simp at k1; subst k1; exact .bad ..⟩
        obtain ⟨r1, r2, r3⟩ := rowOf (m := len) (ag := ag') e2 p1 p2 (p3.imp id Nat.eq_of_beq_eq_true)
        have hrl : res.toList.length = len * inf.size := by rw [e2.1, p2]
        refine ⟨.slice (some (mkA w.heap.size 0)) len len, w.alloc (.cells res.toList.toArray e'), _, ?_, alloc_trans hi.wi _ _ _, newSl hi r1 hrl (Nat.le_refl _) r2 r3⟩
        simp only [Instr.buildSlice, Sem.run_bind, run_und hu, Result.andThen_ok, sizeOf, run_ti h1, Sem.run_pure]
        rw [if_neg (by omega)]
        by_cases h0 : len * inf.size = 0
        · rw [if_pos h0]
          have hzr : zr = #[] := if_pos h0
          rw [hzr] at e1
          simp only [Sem.run_bind, Sem.run_pure, Result.andThen_ok, e1, newRow, run_newObj, Array.toArray_toList]
          rfl
        · rw [if_neg h0]
          have hzr : zr = z.cells := if_neg h0
          rw [hzr] at e1
          simp only [Sem.run_bind, Sem.run_pure, Result.andThen_ok, zeroValue, run_ti h1, q2, e1, newRow, run_newObj, Array.toArray_toList]
          rfl
      · simp at h
    · simp at h
  · simp at h
theorem OpSem.lit {o : Oper} {t len e sz : Nat} {ag : Bool} {cs : List AV} {parts : Array (Nat × Operand)} (ho : o.op = .buildSlice t len parts) (h : litE P t len (partsE P 0 fr parts) = some (e, ag, sz, cs)) :
    OpSem P o fr H (.sl sz len (elOf ag sz cs) true) fr H := by
  intro b a w G ρ n ops i rest k cs' hoi hw hi
  obtain ⟨e1, e2⟩ := parts_rel (P := P) (t := 0) hi.fr parts
  obtain ⟨v', w', G', h1, h2, h3⟩ := lit_core (P := P) hi h e1 e2
  refine ⟨v', w', G', [], .one (step_value hoi hw ?_), h2, by rw [List.append_nil]; exact h3⟩
  have : (parts.map fun (x : Nat × Operand) => (x.1, a.eval x.2)) = (parts.toList.map fun p => (p.1, a.eval p.2)).toArray := by
    apply Array.ext'; simp
  simp only [execOp, ho, this]
  simp [h1]
/-- a row that is written later: a block -/
theorem OpSem.litHs {o : Oper} {t len e sz : Nat} {ag : Bool} {cs : List AV} {parts : Array (Nat × Operand)} (ho : o.op = .buildSlice t len parts) (h : litE P t len (partsE P 0 fr parts) = some (e, ag, sz, cs)) :
    OpSem P o fr H (.hs H.length 0 len len) fr (H ++ [cs.map un1]) := by
  intro b a w G ρ n ops i rest k cs' hoi hw hi
  obtain ⟨hm, hv⟩ := parts_rel (P := P) (t := 0) hi.fr parts
  generalize hrp : (parts.toList.map fun p => (p.1, a.eval p.2)) = rp at hm hv
  generalize partsE P 0 fr parts = ps at h hm hv
  unfold litE at h
  split at h
  · rename_i e' sz' by_ hs
    obtain ⟨hu, inf, zs, h1, h2, h3, h4⟩ := slT_some hs
    subst h3
    obtain ⟨z, zv, inf', q1, q2, q3, q4, q5, _⟩ := zero_sound h2
    rw [h1] at q1; simp at q1; subst q1
    split at h
    · rename_i ag' cs' ha hf
      simp only [cond_eq_ite] at h
      split at h
      · rename_i hq
        simp only [Bool.and_eq_true, Bool.or_eq_true] at hq
        obtain ⟨⟨⟨p1, p2⟩, p3⟩, p4⟩ := hq
        have p2 := Nat.eq_of_beq_eq_true p2
        have p4 := Nat.le_of_ble_eq_true p4
        simp only [Option.some.injEq, Prod.mk.injEq] at h
        obtain ⟨rfl, rfl, rfl, rfl⟩ := h
        let zr : Array Value := if len * inf.size = 0 then #[] else z.cells
        obtain ⟨res, e1, e2⟩ := fill_sound (G := G) (w := w) (ρ := ρ) _ ps rp (List.replicate (len * inf.size) .bad) ((Array.range (len * inf.size)).map (zr[· % zr.size]!)) cs' hf hm hv
          ⟨by simp, fun q c v k1 _ => by rw [List.getElem?_replicate] at k1; split at k1 <;> simp at k1; subst k1; exact .bad ..⟩
        have hr : (Instr.buildSlice t len rp.toArray).run P w = .ok (.slice (some (mkA w.heap.size 0)) len len) (w.alloc (.cells res.toList.toArray e')) := by
          simp only [Instr.buildSlice, Sem.run_bind, run_und hu, Result.andThen_ok, sizeOf, run_ti h1, Sem.run_pure]
          rw [if_neg (by omega)]
          by_cases h0 : len * inf.size = 0
          · rw [if_pos h0]
            have hzr : zr = #[] := if_pos h0
            rw [hzr] at e1
            simp only [Sem.run_bind, Sem.run_pure, Result.andThen_ok, e1, newRow, run_newObj, Array.toArray_toList]
            rfl
          · rw [if_neg h0]
            have hzr : zr = z.cells := if_neg h0
            rw [hzr] at e1
            simp only [Sem.run_bind, Sem.run_pure, Result.andThen_ok, zeroValue, run_ti h1, q2, e1, newRow, run_newObj, Array.toArray_toList]
            rfl
        have hcell : cs'.all isCell = true := by
          rw [List.all_eq_true] at p1 ⊢
          exact fun c hc => pf_isCell (p1 c hc)
        have hN := newBlock (e := e') (cs := cs'.map un1) (vs := res.toList) hi e2.un1 (e2.cell hcell) (fun q c v k1 k2 G T => by
          rw [List.getElem?_map, Option.map_eq_some_iff] at k1
          obtain ⟨y, _, rfl⟩ := k1
          exact Sp_un1 ..)
        have this : (parts.map fun (x : Nat × Operand) => (x.1, a.eval x.2)) = rp.toArray := by
          rw [← hrp]; apply Array.ext'; simp
        refine ⟨_, _, _, [w.heap.size], .one (step_value hoi hw (v := .slice (some (mkA w.heap.size 0)) len len) (w' := w.alloc (.cells res.toList.toArray e')) ?_), alloc_trans hi.wi _ _ _, hN.inv, ?_, by simp [SpV, Sp]⟩
        · simp only [execOp, ho, this]
          simp [hr]
        · exact .hs _ _ _ _ _ _ (by rw [hi.br.len]; simp)
      · simp at h
    · simp at h
  · simp at h
def toB (n : Int) : UInt8 := UInt8.ofNat n.toNat
theorem toB_nat (c : UInt8) : toB (c.toNat : Int) = c := by simp [toB]
theorem toB_val {n : Int} (h0 : 0 ≤ n) (h : n < 256) : ((toB n).toNat : Int) = n := by
  simp only [toB, UInt8.toNat_ofNat']
  omega
/-- bytes of cells -/
def bytesE : List AV → Option (List Int)
  | [] => some []
  | .int .u8 x :: r => match bytesE r with | some l => some (x :: l) | none => none
  | _ => none
theorem bytesE_el : ∀ {cs : List AV} {ns : List Int}, bytesE cs = some ns → (∀ x, x ∈ ns → 0 ≤ x ∧ x < 256) → cs.length = ns.length ∧ ∀ i, i < ns.length → cs.getD i .bad = byteEl (ns.map toB) i
  | [], ns, h, _ => by simp [bytesE] at h; subst h; exact ⟨rfl, fun i hi => absurd hi (Nat.not_lt_zero _)⟩
  | c :: r, ns, h, hb => by
    cases c with
    | int k x =>
      cases k with
      | u8 =>
        simp only [bytesE] at h
        split at h
        · rename_i l hl
          simp only [Option.some.injEq] at h; subst h
          obtain ⟨h1, h2⟩ := bytesE_el hl (fun y hy => hb y (List.mem_cons_of_mem _ hy))
          refine ⟨by simp [h1], fun i hi => ?_⟩
          cases i with
          | zero => simp [byteEl, toB_val (hb x (by simp)).1 (hb x (by simp)).2]
          | succ i => simpa [byteEl] using h2 i (by simpa using hi)
        · simp at h
      | _ => simp [bytesE] at h
    | _ => simp [bytesE] at h
theorem OpSem.litB {o : Oper} {t len e : Nat} {cs : List AV} {ns : List Int} {parts : Array (Nat × Operand)} (ho : o.op = .buildSlice t len parts) (h : litE P t len (partsE P 0 fr parts) = some (e, false, 1, cs)) (hn : bytesE cs = some ns) (hl : Nat.beq ns.length len = true)
    (hb : ∀ x, x ∈ ns → 0 ≤ x ∧ x < 256) : OpSem P o fr H (.bs (ns.map toB) true) fr H := by
  have hl := Nat.eq_of_beq_eq_true hl
  intro b a w G ρ n ops i rest k cs' hoi hw hi
  obtain ⟨v', w', G', ρ2, h1, h2, h3⟩ := OpSem.lit ho h b a w G ρ n ops i rest k cs' hoi hw hi
  refine ⟨v', w', G', ρ2, h1, h2, h3.inv, .bs _ _ _ _ ?_, SpV_of_Sp (Sp_bs_sl.2 h3.sp) (by simp)⟩
  obtain ⟨k1, k2⟩ := bytesE_el hn hb
  have : (ns.map toB).length = len := by simp [hl]
  rw [this]
  exact (h3.vr.pf rfl []).sl_congr fun i hi => by
    simp only [elOf, cond_false]
    rw [k2 i (by omega)]
/-! ### make -/
theorem wrap_i64 {x : Int} (h0 : -9223372036854775808 ≤ x) (h : x ≤ 9223372036854775807) : IntKind.i64.wrap x = x := by
  simp only [IntKind.wrap, IntKind.bits, IntKind.signed, Bool.true_and]
  split
  · rename_i h'; have h' := of_decide_eq_true h'; omega
  · rename_i h'; have h' : ¬ (x % 2 ^ 64 ≥ 2 ^ (64 - 1)) := fun e => h' (decide_eq_true e); omega
theorem run_make {t : TypeId} {e : Nat} {inf : TypeInfo} {z : Value} {zv : List Value} {l c : Int} {kl kc : IntKind} (hu : P.underlying t = some (.slice e)) (hi : P.info? e = some inf) (hz : inf.zero = some z) (hzv : z.cells = zv.toArray) (hsz : inf.size = zv.length)
    (h0 : 0 ≤ l) (h1 : l ≤ c) (h2 : c * inf.bytes ≤ 281474976710656) (h3 : c ≤ 281474976710656) :
    (Instr.makeSlice t (.int kl l) (.int kc c)).run P w = .ok (.slice (some (mkA w.heap.size 0)) l.toNat c.toNat) (w.alloc (.cells ((List.range (c.toNat * inf.size)).map fun q => zv.toArray[q % zv.length]!).toArray e)) := by
  have hwl : IntKind.i64.wrap l = l := wrap_i64 (by omega) (by omega)
  have hwc : IntKind.i64.wrap c = c := wrap_i64 (by omega) (by omega)
  have h4 : ¬ ((inf.bytes : Int) * c > 281474976710656) := by rw [Int.mul_comm]; omega
  simp only [Instr.makeSlice, Sem.run_bind, run_und hu, Result.andThen_ok, asInt, asIntOf, Sem.run_pure, run_ti hi, hwl, hwc]
  rw [if_neg (by simp; omega)]
  simp only [Sem.run_bind, run_askRoom, Result.andThen_ok, sizeOf, run_ti hi, Sem.run_pure]
  by_cases h0 : c.toNat * inf.size = 0
  · rw [if_pos h0]
    simp only [Sem.run_bind, Sem.run_pure, Result.andThen_ok, newRow, run_newObj]
    rw [h0]
    simp
    refine ⟨rfl, ?_⟩
    congr 2
    apply Array.ext'
    simp
  · rw [if_neg h0]
    simp only [Sem.run_bind, Sem.run_pure, Result.andThen_ok, zeroValue, run_ti hi, hz, newRow, run_newObj, hzv]
    have : (Array.range (c.toNat * inf.size)).map (fun q => zv.toArray[q % zv.toArray.size]!) = ((List.range (c.toNat * inf.size)).map fun q => zv.toArray[q % zv.length]!).toArray := by
      apply Array.ext'
      simp
    rw [this]
    rfl
def nilEl (P : Program) (t : TypeId) : AV := nilSl P t
theorem OpSem.make0 {o : Oper} {t e sz by_ : Nat} {l c : Operand} {kl kc : IntKind} {x : Int} (ho : o.op = .makeSlice t l c) (hs : slT P t = some (e, sz, by_)) (hl : opd P 3 fr l = .int kl 0) (hc : opd P 3 fr c = .int kc x)
    (h0 : 0 ≤ x) (h1 : x * by_ ≤ 281474976710656) (h2 : x ≤ 281474976710656) : OpSem P o fr H (.sl sz 0 (fun _ => .bad) true) fr H := by
  intro b a w G ρ n ops i rest k cs hoi hw hi
  obtain ⟨hu, inf, zs, e1, e2, rfl, rfl⟩ := slT_some hs
  obtain ⟨z, zv, inf', q1, q2, q3, q4, q5, _⟩ := zero_sound e2
  rw [e1] at q1; simp at q1; subst q1
  have hl2 := VR.opd (P := P) (t := 3) hi.fr l
  rw [hl] at hl2
  have hl2 := hl2.int_inv
  have hc2 := VR.opd (P := P) (t := 3) hi.fr c
  rw [hc] at hc2
  have hc2 := hc2.int_inv
  have hr := run_make (P := P) (w := w) (kl := kl) (kc := kc) hu e1 q2 q3 q4 (Int.le_refl 0) h0 h1 h2
  have he : (execOp a.eval o).run P w = .ok (.value (.slice (some (mkA w.heap.size 0)) (Int.toNat 0) x.toNat)) (w.alloc (.cells ((List.range (x.toNat * inf.size)).map fun q => zv.toArray[q % zv.length]!).toArray e)) := by
    simp only [execOp, ho, hl2, hc2, Sem.run_bind, hr, Result.andThen_ok, Sem.run_pure]
  have hN := newSl (e := e) (m := 0) (cap := x.toNat) (sz := inf.size) (el := fun _ => .bad) (vs := (List.range (x.toNat * inf.size)).map fun q => zv.toArray[q % zv.length]!) hi (fun v hv => by
    obtain ⟨q, hq, rfl⟩ := List.mem_map.1 hv
    have hz : 0 < zv.length := by
      rcases Nat.eq_zero_or_pos zv.length with h0 | h0
      · rw [q4, h0] at hq; simp at hq
      · exact h0
    have hm := Nat.mod_lt q hz
    have : zv.toArray[q % zv.length]! = zv[q % zv.length] := by simp [hm]
    rw [this]
    exact q5 _ (List.getElem_mem hm)) (by simp) (Nat.zero_le _) (fun i h => absurd h (Nat.not_lt_zero _)) (fun i j c v h => absurd h (Nat.not_lt_zero _))
  exact ⟨_, _, _, [], .one (step_value hoi hw he), alloc_trans hi.wi _ _ _, by rw [List.append_nil]; exact hN⟩
/-- bytes: the same -/
theorem OpSem.make0B {o : Oper} {t e by_ : Nat} {l c : Operand} {kl kc : IntKind} {x : Int} (ho : o.op = .makeSlice t l c) (hs : slT P t = some (e, 1, by_)) (hl : opd P 3 fr l = .int kl 0) (hc : opd P 3 fr c = .int kc x)
    (h0 : 0 ≤ x) (h1 : x * by_ ≤ 281474976710656) (h2 : x ≤ 281474976710656) : OpSem P o fr H (.bs [] true) fr H := by
  intro b a w G ρ n ops i rest k cs' hoi hw hi
  obtain ⟨v', w', G', ρ2, h3, h4, h5⟩ := OpSem.make0 ho hs hl hc h0 h1 h2 b a w G ρ n ops i rest k cs' hoi hw hi
  refine ⟨v', w', G', ρ2, h3, h4, h5.inv, .bs _ _ _ _ ?_, SpV_of_Sp (Sp_bs_sl.2 h5.sp) (by simp)⟩
  exact (h5.vr.pf rfl []).sl_congr fun i hi => absurd hi (Nat.not_lt_zero _)
/-- 'make', to be written: a block -/
def rep (m : Nat) (zs : List AV) : List AV := (List.replicate m zs).flatten
theorem rep_at {zs : List AV} {m q : Nat} (h : q < m * zs.length) : (rep m zs)[q]? = zs[q % zs.length]? := by
  induction m generalizing q with
  | zero => simp at h
  | succ m ih =>
    have hz : 0 < zs.length := by
      rcases Nat.eq_zero_or_pos zs.length with h0 | h0
      · rw [h0] at h; simp at h
      · exact h0
    have e : rep (m + 1) zs = zs ++ rep m zs := by simp [rep, List.replicate_succ]
    rw [e]
    rcases Nat.lt_or_ge q zs.length with h1 | h1
    · rw [List.getElem?_append_left h1, Nat.mod_eq_of_lt h1]
    · rw [List.getElem?_append_right h1, ih (by rw [Nat.succ_mul] at h; omega)]
      rw [show q % zs.length = (q - zs.length) % zs.length by rw [Nat.mod_eq_sub_mod h1]]
theorem rep_length (zs : List AV) (m : Nat) : (rep m zs).length = m * zs.length := by simp [rep]
theorem OpSem.make {o : Oper} {t e sz by_ : Nat} {l c : Operand} {kl kc : IntKind} {y x : Int} {zs : List AV} (ho : o.op = .makeSlice t l c) (hs : slT P t = some (e, sz, by_)) (hz : zeroE P e = some zs) (hl : opd P 3 fr l = .int kl y) (hc : opd P 3 fr c = .int kc x)
    (hy : 0 ≤ y) (h0 : y ≤ x) (h1 : x * by_ ≤ 281474976710656) (h2 : x ≤ 281474976710656) : OpSem P o fr H (.hs H.length 0 y.toNat x.toNat) fr (H ++ [rep x.toNat zs]) := by
  intro b a w G ρ n ops i rest k cs hoi hw hi
  obtain ⟨hu, inf, zs', e1, e2, rfl, rfl⟩ := slT_some hs
  rw [hz] at e2; simp at e2; subst e2
  obtain ⟨z, zv, inf', q1, q2, q3, q4, q5, q6, q7⟩ := zero_sound hz
  rw [e1] at q1; simp at q1; subst q1
  have hl2 := VR.opd (P := P) (t := 3) hi.fr l
  rw [hl] at hl2
  have hl2 := hl2.int_inv
  have hc2 := VR.opd (P := P) (t := 3) hi.fr c
  rw [hc] at hc2
  have hc2 := hc2.int_inv
  have hr := run_make (P := P) (w := w) (kl := kl) (kc := kc) hu e1 q2 q3 q4 hy h0 h1 h2
  have he : (execOp a.eval o).run P w = .ok (.value (.slice (some (mkA w.heap.size 0)) y.toNat x.toNat)) (w.alloc (.cells ((List.range (x.toNat * inf.size)).map fun q => zv.toArray[q % zv.length]!).toArray e)) := by
    simp only [execOp, ho, hl2, hc2, Sem.run_bind, hr, Result.andThen_ok, Sem.run_pure]
  have hzl : zs.length = zv.length := by have := (q6 G w ρ).1; omega
  have hat : ∀ q v, ((List.range (x.toNat * inf.size)).map fun q => zv.toArray[q % zv.length]!)[q]? = some v → q < x.toNat * zv.length ∧ zv[q % zv.length]? = some v := by
    intro q v hq
    have h1 := (List.getElem?_eq_some_iff.1 hq).1
    simp at h1
    rw [q4] at h1
    have hz : 0 < zv.length := by
      rcases Nat.eq_zero_or_pos zv.length with h0 | h0
      · rw [h0] at h1; simp at h1
      · exact h0
    have hm := Nat.mod_lt q hz
    refine ⟨h1, ?_⟩
    rw [List.getElem?_map, List.getElem?_range (by rw [q4]; exact h1)] at hq
    simp only [Option.map_some, Option.some.injEq] at hq
    rw [← hq, List.getElem?_eq_getElem hm]
    simp [hm]
  have hN := newBlock (e := e) (cs := rep x.toNat zs) (vs := (List.range (x.toNat * inf.size)).map fun q => zv.toArray[q % zv.length]!) hi
    ⟨by simp [rep_length, hzl, q4], fun q c v h3 h4 => by
      obtain ⟨k1, k2⟩ := hat q v h4
      rw [rep_at (by rw [hzl]; exact k1), hzl] at h3
      exact (q6 G w ρ).2 _ c v h3 k2⟩
    (fun v hv => by
      obtain ⟨q, hq, hv⟩ := List.mem_iff_getElem.1 hv
      have := hat q v (by rw [List.getElem?_eq_getElem hq, hv])
      exact q5 v (List.mem_of_getElem? this.2))
    (fun q c v h3 h4 => by
      obtain ⟨k1, k2⟩ := hat q v h4
      rw [rep_at (by rw [hzl]; exact k1), hzl] at h3
      exact q7 _ c v h3 k2)
  refine ⟨_, _, _, [w.heap.size], .one (step_value hoi hw he), alloc_trans hi.wi _ _ _, hN.inv, ?_, by simp [SpV, Sp]⟩
  exact .hs _ _ _ _ _ _ (by rw [hi.br.len]; simp)
/-- the bytes of a block's cells are appended -/
theorem OpSem.appendH {o : Oper} {tt t2 e by_ t id off m cp : Nat} {x : Operand} {s : List UInt8} {blk : List AV} {ns : List Int} (ho : o.op = .call { callee := .builtin .append, args := #[.tmp t, x], argTypes := #[tt, t2] })
    (ht : slT P tt = some (e, 1, by_)) (h2 : isSS P t2 = true) (hD : fr t = .bs s true) (hX : opd P t2 fr x = .hs id off m cp) (hk : H[id]? = some blk) (hn : bytesE ((blk.drop off).take m) = some ns) (hm : Nat.beq ns.length m = true)
    (hns : ∀ x, x ∈ ns → 0 ≤ x ∧ x < 256) (hb : (s.length + m) * by_ ≤ 140737488355328) (hl : s.length + m ≤ 140737488355328) :
    OpSem P o fr H (.bs (s ++ ns.map toB) true) (fr.set t (un (fr t))) H := by
  have hm := Nat.eq_of_beq_eq_true hm
  intro b a w G ρ n ops i rest k cs hoi hw hi
  obtain ⟨hu, inf, zs, h3, h4, h5, rfl⟩ := slT_some ht
  have hd := hi.fr t
  have hx := VR.opd (P := P) (t := t2) hi.fr x
  rw [hX] at hx
  obtain ⟨bb, hr, he⟩ := hx.hs_inv
  obtain ⟨q1, q2⟩ := bytesE_el hn hns
  have hlen : off + m ≤ blk.length ∨ m = 0 := by simp at q1; omega
  have hel : ∀ i, i < m → blk.getD (off + i) .bad = byteEl (ns.map toB) i := by
    intro i hi'
    rw [← q2 i (by omega)]
    simp only [List.getD_eq_getElem?_getD]
    rw [List.getElem?_take, if_pos hi', List.getElem?_drop]
  obtain ⟨news, hs⟩ : ∃ news, Src P G w 1 m (byteEl (ns.map toB)) (a.eval x) news := by
    rw [he]
    rcases hlen with hlen | h0
    · obtain ⟨news, hs⟩ := src_hs (P := P) (cp := cp) hi.wi hi.br hr hk hlen (fun q g1 g2 => by
        have := hel (q - off) (by omega)
        rw [show off + (q - off) = q by omega] at this
        rw [this]; rfl)
      exact ⟨news, hs.len, hs.first, hs.first', hs.size, hs.one, fun i hi' => by rfl, fun i j c v g1 g2 g3 => hs.val i j c v g1 (by rw [hel i g1]; exact g2) g3⟩
    · subst h0
      exact ⟨[], rfl, rfl, rfl, by simp, by simp, fun i hi => absurd hi (Nat.not_lt_zero _), fun i j c v hi => absurd hi (Nat.not_lt_zero _)⟩
  have hd1 := hd.1
  have hd2 := hd.2
  rw [hD] at hd1 hd2
  have hd3 : Sp G (.slot t 0) (.sl 1 s.length (byteEl s) true) (a.tmps.getD t undef) := Sp_bs_sl.1 hd2
  obtain ⟨v', w', G', h6, h7, h8⟩ := append_core (ty := o.type) hi hu h3 h5 h4 h2 (hd1.bs_inv.of_nil (ρ := ρ)) hd3 hs hb hl
  refine ⟨v', w', G', [], .one (step_value hoi hw (append_exec ho h6)), h7, ?_⟩
  rw [List.append_nil]
  have h9 := h8.vr
  have hl2 : (ns.map toB).length = m := by simp [hm]
  rw [← hl2] at h9
  refine ⟨h8.inv, bs_append h9, SpV_of_Sp ?_ (by simp)⟩
  have := h8.sp
  rw [← hl2] at this
  exact Sp_bs_sl.2 this
end Go.Am
