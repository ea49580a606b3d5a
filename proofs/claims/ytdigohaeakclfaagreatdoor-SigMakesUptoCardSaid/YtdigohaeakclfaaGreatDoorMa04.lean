/- The abstract machine: literals of slices, 'make', bytes out of strings, 'copy'. The abstract machine: bytes of a string; 'copy'; ownership in memory. The abstract machine: calls. -/
import Derived.Test.YtdigohaeakclfaaGreatDoorMa03
import Derived.Laws.IdiomStrings
set_option linter.unusedSectionVars false
set_option linter.unusedVariables false
set_option linter.unusedSimpArgs false
namespace Go.Am
open Go
variable [Tab]
variable {P : Program} {G G' : Gh} {w : World} {ρ : List Nat} {n : Nat} {fr : Fr} {H : Heap} {tmps : Array Value}

def elOf (ag : Bool) (sz : Nat) (cs : List AV) : Nat → AV := fun i => bif ag then .agg ((cs.drop (i * sz)).take sz) else cs.getD i .bad
theorem pf_isCell {c : AV} (h : pf c = true) : isCell c = true := by cases c <;> simp_all [pf, isCell]
/-- cells that are all laid, as a row's elements -/
theorem rowOf {cs : List AV} {vs : List Value} {m sz : Nat} {ag : Bool} (h : VRs G w ρ cs vs) (hp : cs.all pf = true) (hl : cs.length = m * sz) (ha : ag = true ∨ sz = 1) :
    (∀ v, v ∈ vs → v.oneCell' = true) ∧ (∀ i, i < m → (elOf ag sz cs i).cells.length = sz) ∧
    (∀ (i j : Nat) (c : AV) (v : Value), i < m → (elOf ag sz cs i).cells[j]? = some c → vs[i * sz + j]? = some v → VR G w [] c v) := by
  have hcell : cs.all isCell = true := by
    rw [List.all_eq_true] at hp ⊢
    exact fun x hx => pf_isCell (hp x hx)
  have hcl : ∀ i, i < m → (elOf ag sz cs i).cells = (cs.drop (i * sz)).take sz := by
    intro i hi
    cases ag with
    | true => rfl
    | false =>
      have hs := ha.resolve_left (by simp)
      subst hs
      have hi2 : i < cs.length := by omega
      have hq : pf cs[i] = true := (List.all_eq_true.1 hp) _ (List.getElem_mem hi2)
      have e1 : cs.getD i .bad = cs[i] := by simp [List.getD_eq_getElem?_getD, List.getElem?_eq_getElem hi2]
      have e2 : (cs[i]).cells = [cs[i]] := by
        generalize cs[i] = c at hq
        cases c <;> first | rfl | simp [pf] at hq
      simp only [elOf, cond_false, e1, e2, Nat.mul_one]
      rw [List.drop_eq_getElem_cons hi2]
      rfl
  refine ⟨h.cell hcell, fun i hi => ?_, fun i j c v hi hc hv => ?_⟩
  · rw [hcl i hi]
    have : (i + 1) * sz ≤ m * sz := Nat.mul_le_mul_right _ hi
    rw [Nat.succ_mul] at this
    simp; omega
  · rw [hcl i hi, List.getElem?_take] at hc
    split at hc
    · rw [List.getElem?_drop] at hc
      exact (h.2 _ c v hc hv).pf ((List.all_eq_true.1 hp) _ (List.mem_of_getElem? hc)) []
    · simp at hc
def litE (P : Program) (t : TypeId) (len : Nat) (parts : List (Nat × AV)) : Option (TypeId × Bool × Nat × List AV) :=
  match slT P t with
  | some (e, sz, _) => match isAggT P e, fillE (fun i => some (i * sz, sz)) (List.replicate (len * sz) .bad) parts with
    | some ag, some cs => bif cs.all pf && Nat.beq cs.length (len * sz) && (ag || Nat.beq sz 1) && Nat.ble (len * sz) 16777216 then some (e, ag, sz, cs) else none
    | _, _ => none
  | none => none
theorem lit_core {t len : Nat} {parts : List (Nat × AV)} {rp : List (Nat × Value)} {e sz : Nat} {ag : Bool} {cs : List AV} (hi : Inv G w ρ n fr H tmps) (h : litE P t len parts = some (e, ag, sz, cs)) (hm : rp.map (·.1) = parts.map (·.1))
    (hv : ∀ (q : Nat) (p : Nat × AV) (r : Nat × Value), parts[q]? = some p → rp[q]? = some r → VR G w ρ p.2 r.2) :
    ∃ v' w' G', (Instr.buildSlice t len rp.toArray).run P w = .ok v' w' ∧ Trans G w G' w' ∧ InvV G' w' ρ n fr H tmps (.sl sz len (elOf ag sz cs) true) v' := by
  unfold litE at h
  split at h
  · rename_i e' sz' by_ hs
    obtain ⟨hu, inf, zs, h1, h2, h3, h4⟩ := slT_some hs
    subst h3
    obtain ⟨z, zv, inf', q1, q2, q3, q4, q5, _⟩ := zero_sound h2
    rw [h1] at q1; simp at q1; subst q1
    split at h
    · rename_i ag' cs' ha hf
      simp only [cond_eq_ite] at h
      split at h
      · rename_i hq
        simp only [Bool.and_eq_true, Bool.or_eq_true] at hq
        obtain ⟨⟨⟨p1, p2⟩, p3⟩, p4⟩ := hq
        have p2 := Nat.eq_of_beq_eq_true p2
        have p4 := Nat.le_of_ble_eq_true p4
        simp only [Option.some.injEq, Prod.mk.injEq] at h
        obtain ⟨rfl, rfl, rfl, rfl⟩ := h
        let zr : Array Value := if len * inf.size = 0 then #[] else z.cells
        obtain ⟨res, e1, e2⟩ := fill_sound (G := G) (w := w) (ρ := ρ) _ parts rp (List.replicate (len * inf.size) .bad) ((Array.range (len * inf.size)).map (zr[· % zr.size]!)) cs' hf hm hv
          ⟨by simp, fun q c v k1 _ => by rw [List.getElem?_replicate] at k1; split at k1 <;> simp at k1; subst k1; exact .bad ..⟩
        obtain ⟨r1, r2, r3⟩ := rowOf (m := len) (ag := ag') e2 p1 p2 (p3.imp id Nat.eq_of_beq_eq_true)
        have hrl : res.toList.length = len * inf.size := by rw [e2.1, p2]
        refine ⟨.slice (some (mkA w.heap.size 0)) len len, w.alloc (.cells res.toList.toArray e'), _, ?_, alloc_trans hi.wi _ _ _, newSl hi r1 hrl (Nat.le_refl _) r2 r3⟩
        simp only [Instr.buildSlice, Sem.run_bind, run_und hu, Result.andThen_ok, sizeOf, run_ti h1, Sem.run_pure]
        rw [if_neg (by omega)]
        by_cases h0 : len * inf.size = 0
        · rw [if_pos h0]
          have hzr : zr = #[] := if_pos h0
          rw [hzr] at e1
          simp only [Sem.run_bind, Sem.run_pure, Result.andThen_ok, e1, newRow, run_newObj, Array.toArray_toList]
          rfl
        · rw [if_neg h0]
          have hzr : zr = z.cells := if_neg h0
          rw [hzr] at e1
          simp only [Sem.run_bind, Sem.run_pure, Result.andThen_ok, zeroValue, run_ti h1, q2, e1, newRow, run_newObj, Array.toArray_toList]
          rfl
      · simp at h
    · simp at h
  · simp at h
theorem OpSem.lit {o : Oper} {t len e sz : Nat} {ag : Bool} {cs : List AV} {parts : Array (Nat × Operand)} (ho : o.op = .buildSlice t len parts) (h : litE P t len (partsE P 0 fr parts) = some (e, ag, sz, cs)) :
    OpSem P o fr H (.sl sz len (elOf ag sz cs) true) fr H := by
  intro b a w G ρ n ops i rest k cs' hoi hw hi
  obtain ⟨e1, e2⟩ := parts_rel (P := P) (t := 0) hi.fr parts
  obtain ⟨v', w', G', h1, h2, h3⟩ := lit_core (P := P) hi h e1 e2
  refine ⟨v', w', G', [], .one (step_value hoi hw ?_), h2, by rw [List.append_nil]; exact h3⟩
  have : (parts.map fun (x : Nat × Operand) => (x.1, a.eval x.2)) = (parts.toList.map fun p => (p.1, a.eval p.2)).toArray := by
    apply Array.ext'; simp
  simp only [execOp, ho, this]
  simp [h1]
/-- a row that is written later: a block -/
theorem OpSem.litHs {o : Oper} {t len e sz : Nat} {ag : Bool} {cs : List AV} {parts : Array (Nat × Operand)} (ho : o.op = .buildSlice t len parts) (h : litE P t len (partsE P 0 fr parts) = some (e, ag, sz, cs)) :
    OpSem P o fr H (.hs H.length 0 len len) fr (H ++ [cs.map un1]) := by
  intro b a w G ρ n ops i rest k cs' hoi hw hi
  obtain ⟨hm, hv⟩ := parts_rel (P := P) (t := 0) hi.fr parts
  generalize hrp : (parts.toList.map fun p => (p.1, a.eval p.2)) = rp at hm hv
  generalize partsE P 0 fr parts = ps at h hm hv
  unfold litE at h
  split at h
  · rename_i e' sz' by_ hs
    obtain ⟨hu, inf, zs, h1, h2, h3, h4⟩ := slT_some hs
    subst h3
    obtain ⟨z, zv, inf', q1, q2, q3, q4, q5, _⟩ := zero_sound h2
    rw [h1] at q1; simp at q1; subst q1
    split at h
    · rename_i ag' cs' ha hf
      simp only [cond_eq_ite] at h
      split at h
      · rename_i hq
        simp only [Bool.and_eq_true, Bool.or_eq_true] at hq
        obtain ⟨⟨⟨p1, p2⟩, p3⟩, p4⟩ := hq
        have p2 := Nat.eq_of_beq_eq_true p2
        have p4 := Nat.le_of_ble_eq_true p4
        simp only [Option.some.injEq, Prod.mk.injEq] at h
        obtain ⟨rfl, rfl, rfl, rfl⟩ := h
        let zr : Array Value := if len * inf.size = 0 then #[] else z.cells
        obtain ⟨res, e1, e2⟩ := fill_sound (G := G) (w := w) (ρ := ρ) _ ps rp (List.replicate (len * inf.size) .bad) ((Array.range (len * inf.size)).map (zr[· % zr.size]!)) cs' hf hm hv
          ⟨by simp, fun q c v k1 _ => by rw [List.getElem?_replicate] at k1; split at k1 <;> simp at k1; subst k1; exact .bad ..⟩
        have hr : (Instr.buildSlice t len rp.toArray).run P w = .ok (.slice (some (mkA w.heap.size 0)) len len) (w.alloc (.cells res.toList.toArray e')) := by
          simp only [Instr.buildSlice, Sem.run_bind, run_und hu, Result.andThen_ok, sizeOf, run_ti h1, Sem.run_pure]
          rw [if_neg (by omega)]
          by_cases h0 : len * inf.size = 0
          · rw [if_pos h0]
            have hzr : zr = #[] := if_pos h0
            rw [hzr] at e1
            simp only [Sem.run_bind, Sem.run_pure, Result.andThen_ok, e1, newRow, run_newObj, Array.toArray_toList]
            rfl
          · rw [if_neg h0]
            have hzr : zr = z.cells := if_neg h0
            rw [hzr] at e1
            simp only [Sem.run_bind, Sem.run_pure, Result.andThen_ok, zeroValue, run_ti h1, q2, e1, newRow, run_newObj, Array.toArray_toList]
            rfl
        have hcell : cs'.all isCell = true := by
          rw [List.all_eq_true] at p1 ⊢
          exact fun c hc => pf_isCell (p1 c hc)
        have hN := newBlock (e := e') (cs := cs'.map un1) (vs := res.toList) hi e2.un1 (e2.cell hcell) (fun q c v k1 k2 G T => by
          rw [List.getElem?_map, Option.map_eq_some_iff] at k1
          obtain ⟨y, _, rfl⟩ := k1
          exact Sp_un1 ..)
        have this : (parts.map fun (x : Nat × Operand) => (x.1, a.eval x.2)) = rp.toArray := by
          rw [← hrp]; apply Array.ext'; simp
        refine ⟨_, _, _, [w.heap.size], .one (step_value hoi hw (v := .slice (some (mkA w.heap.size 0)) len len) (w' := w.alloc (.cells res.toList.toArray e')) ?_), alloc_trans hi.wi _ _ _, hN.inv, ?_, by simp [SpV, Sp]⟩
        · simp only [execOp, ho, this]
          simp [hr]
        · exact .hs _ _ _ _ _ _ (by rw [hi.br.len]; simp)
      · simp at h
    · simp at h
  · simp at h
def toB (n : Int) : UInt8 := UInt8.ofNat n.toNat
theorem toB_val {n : Int} (h0 : 0 ≤ n) (h : n < 256) : ((toB n).toNat : Int) = n := by
  simp only [toB, UInt8.toNat_ofNat']
  omega
/-- bytes of cells -/
def bytesE : List AV → Option (List Int)
  | [] => some []
  | .int .u8 x :: r => match bytesE r with | some l => some (x :: l) | none => none
  | _ => none
theorem bytesE_el : ∀ {cs : List AV} {ns : List Int}, bytesE cs = some ns → (∀ x, x ∈ ns → 0 ≤ x ∧ x < 256) → cs.length = ns.length ∧ ∀ i, i < ns.length → cs.getD i .bad = byteEl (ns.map toB) i
  | [], ns, h, _ => by simp [bytesE] at h; subst h; exact ⟨rfl, fun i hi => absurd hi (Nat.not_lt_zero _)⟩
  | c :: r, ns, h, hb => by
    cases c with
    | int k x =>
      cases k with
      | u8 =>
        simp only [bytesE] at h
        split at h
        · rename_i l hl
          simp only [Option.some.injEq] at h; subst h
          obtain ⟨h1, h2⟩ := bytesE_el hl (fun y hy => hb y (List.mem_cons_of_mem _ hy))
          refine ⟨by simp [h1], fun i hi => ?_⟩
          cases i with
          | zero => simp [byteEl, toB_val (hb x (by simp)).1 (hb x (by simp)).2]
          | succ i => simpa [byteEl] using h2 i (by simpa using hi)
        · simp at h
      | _ => simp [bytesE] at h
    | _ => simp [bytesE] at h
theorem OpSem.litB {o : Oper} {t len e : Nat} {cs : List AV} {ns : List Int} {parts : Array (Nat × Operand)} (ho : o.op = .buildSlice t len parts) (h : litE P t len (partsE P 0 fr parts) = some (e, false, 1, cs)) (hn : bytesE cs = some ns) (hl : Nat.beq ns.length len = true)
    (hb : ∀ x, x ∈ ns → 0 ≤ x ∧ x < 256) : OpSem P o fr H (.bs (ns.map toB) true) fr H := by
  have hl := Nat.eq_of_beq_eq_true hl
  intro b a w G ρ n ops i rest k cs' hoi hw hi
  obtain ⟨v', w', G', ρ2, h1, h2, h3⟩ := OpSem.lit ho h b a w G ρ n ops i rest k cs' hoi hw hi
  refine ⟨v', w', G', ρ2, h1, h2, h3.inv, .bs _ _ _ _ ?_, SpV_of_Sp (Sp_bs_sl.2 h3.sp) (by simp)⟩
  obtain ⟨k1, k2⟩ := bytesE_el hn hb
  have : (ns.map toB).length = len := by simp [hl]
  rw [this]
  exact (h3.vr.pf rfl []).sl_congr fun i hi => by
    simp only [elOf, cond_false]
    rw [k2 i (by omega)]
/-! ### make -/
theorem wrap_i64 {x : Int} (h0 : -9223372036854775808 ≤ x) (h : x ≤ 9223372036854775807) : IntKind.i64.wrap x = x := by
  simp only [IntKind.wrap, IntKind.bits, IntKind.signed, Bool.true_and]
  split
  · rename_i h'; have h' := of_decide_eq_true h'; omega
  · rename_i h'; have h' : ¬ (x % 2 ^ 64 ≥ 2 ^ (64 - 1)) := fun e => h' (decide_eq_true e); omega
theorem run_make {t : TypeId} {e : Nat} {inf : TypeInfo} {z : Value} {zv : List Value} {l c : Int} {kl kc : IntKind} (hu : P.underlying t = some (.slice e)) (hi : P.info? e = some inf) (hz : inf.zero = some z) (hzv : z.cells = zv.toArray) (hsz : inf.size = zv.length)
    (h0 : 0 ≤ l) (h1 : l ≤ c) (h2 : c * inf.bytes ≤ 281474976710656) (h3 : c ≤ 281474976710656) :
    (Instr.makeSlice t (.int kl l) (.int kc c)).run P w = .ok (.slice (some (mkA w.heap.size 0)) l.toNat c.toNat) (w.alloc (.cells ((List.range (c.toNat * inf.size)).map fun q => zv.toArray[q % zv.length]!).toArray e)) := by
  have hwl : IntKind.i64.wrap l = l := wrap_i64 (by omega) (by omega)
  have hwc : IntKind.i64.wrap c = c := wrap_i64 (by omega) (by omega)
  have h4 : ¬ ((inf.bytes : Int) * c > 281474976710656) := by rw [Int.mul_comm]; omega
  simp only [Instr.makeSlice, Sem.run_bind, run_und hu, Result.andThen_ok, asInt, asIntOf, Sem.run_pure, run_ti hi, hwl, hwc]
  rw [if_neg (by simp; omega)]
  simp only [Sem.run_bind, run_askRoom, Result.andThen_ok, sizeOf, run_ti hi, Sem.run_pure]
  by_cases h0 : c.toNat * inf.size = 0
  · rw [if_pos h0]
    simp only [Sem.run_bind, Sem.run_pure, Result.andThen_ok, newRow, run_newObj]
    rw [h0]
    simp
    refine ⟨rfl, ?_⟩
    congr 2
    apply Array.ext'
    simp
  · rw [if_neg h0]
    simp only [Sem.run_bind, Sem.run_pure, Result.andThen_ok, zeroValue, run_ti hi, hz, newRow, run_newObj, hzv]
    have : (Array.range (c.toNat * inf.size)).map (fun q => zv.toArray[q % zv.toArray.size]!) = ((List.range (c.toNat * inf.size)).map fun q => zv.toArray[q % zv.length]!).toArray := by
      apply Array.ext'
      simp
    rw [this]
    rfl
theorem OpSem.make0 {o : Oper} {t e sz by_ : Nat} {l c : Operand} {kl kc : IntKind} {x : Int} (ho : o.op = .makeSlice t l c) (hs : slT P t = some (e, sz, by_)) (hl : opd P 3 fr l = .int kl 0) (hc : opd P 3 fr c = .int kc x)
    (h0 : 0 ≤ x) (h1 : x * by_ ≤ 281474976710656) (h2 : x ≤ 281474976710656) : OpSem P o fr H (.sl sz 0 (fun _ => .bad) true) fr H := by
  intro b a w G ρ n ops i rest k cs hoi hw hi
  obtain ⟨hu, inf, zs, e1, e2, rfl, rfl⟩ := slT_some hs
  obtain ⟨z, zv, inf', q1, q2, q3, q4, q5, _⟩ := zero_sound e2
  rw [e1] at q1; simp at q1; subst q1
  have hl2 := VR.opd (P := P) (t := 3) hi.fr l
  rw [hl] at hl2
  have hl2 := hl2.int_inv
  have hc2 := VR.opd (P := P) (t := 3) hi.fr c
  rw [hc] at hc2
  have hc2 := hc2.int_inv
  have hr := run_make (P := P) (w := w) (kl := kl) (kc := kc) hu e1 q2 q3 q4 (Int.le_refl 0) h0 h1 h2
  have he : (execOp a.eval o).run P w = .ok (.value (.slice (some (mkA w.heap.size 0)) (Int.toNat 0) x.toNat)) (w.alloc (.cells ((List.range (x.toNat * inf.size)).map fun q => zv.toArray[q % zv.length]!).toArray e)) := by
    simp only [execOp, ho, hl2, hc2, Sem.run_bind, hr, Result.andThen_ok, Sem.run_pure]
  have hN := newSl (e := e) (m := 0) (cap := x.toNat) (sz := inf.size) (el := fun _ => .bad) (vs := (List.range (x.toNat * inf.size)).map fun q => zv.toArray[q % zv.length]!) hi (fun v hv => by
    obtain ⟨q, hq, rfl⟩ := List.mem_map.1 hv
    have hz : 0 < zv.length := by
      rcases Nat.eq_zero_or_pos zv.length with h0 | h0
      · rw [q4, h0] at hq; simp at hq
      · exact h0
    have hm := Nat.mod_lt q hz
    have : zv.toArray[q % zv.length]! = zv[q % zv.length] := by simp [hm]
    rw [this]
    exact q5 _ (List.getElem_mem hm)) (by simp) (Nat.zero_le _) (fun i h => absurd h (Nat.not_lt_zero _)) (fun i j c v h => absurd h (Nat.not_lt_zero _))
  exact ⟨_, _, _, [], .one (step_value hoi hw he), alloc_trans hi.wi _ _ _, by rw [List.append_nil]; exact hN⟩
/-- bytes: the same -/
theorem OpSem.make0B {o : Oper} {t e by_ : Nat} {l c : Operand} {kl kc : IntKind} {x : Int} (ho : o.op = .makeSlice t l c) (hs : slT P t = some (e, 1, by_)) (hl : opd P 3 fr l = .int kl 0) (hc : opd P 3 fr c = .int kc x)
    (h0 : 0 ≤ x) (h1 : x * by_ ≤ 281474976710656) (h2 : x ≤ 281474976710656) : OpSem P o fr H (.bs [] true) fr H := by
  intro b a w G ρ n ops i rest k cs' hoi hw hi
  obtain ⟨v', w', G', ρ2, h3, h4, h5⟩ := OpSem.make0 ho hs hl hc h0 h1 h2 b a w G ρ n ops i rest k cs' hoi hw hi
  refine ⟨v', w', G', ρ2, h3, h4, h5.inv, .bs _ _ _ _ ?_, SpV_of_Sp (Sp_bs_sl.2 h5.sp) (by simp)⟩
  exact (h5.vr.pf rfl []).sl_congr fun i hi => absurd hi (Nat.not_lt_zero _)
/-- 'make', to be written: a block -/
def rep (m : Nat) (zs : List AV) : List AV := (List.replicate m zs).flatten
theorem rep_at {zs : List AV} {m q : Nat} (h : q < m * zs.length) : (rep m zs)[q]? = zs[q % zs.length]? := by
  induction m generalizing q with
  | zero => simp at h
  | succ m ih =>
    have hz : 0 < zs.length := by
      rcases Nat.eq_zero_or_pos zs.length with h0 | h0
      · rw [h0] at h; simp at h
      · exact h0
    have e : rep (m + 1) zs = zs ++ rep m zs := by simp [rep, List.replicate_succ]
    rw [e]
    rcases Nat.lt_or_ge q zs.length with h1 | h1
    · rw [List.getElem?_append_left h1, Nat.mod_eq_of_lt h1]
    · rw [List.getElem?_append_right h1, ih (by rw [Nat.succ_mul] at h; omega)]
      rw [show q % zs.length = (q - zs.length) % zs.length by rw [Nat.mod_eq_sub_mod h1]]
theorem rep_length (zs : List AV) (m : Nat) : (rep m zs).length = m * zs.length := by simp [rep]
theorem OpSem.make {o : Oper} {t e sz by_ : Nat} {l c : Operand} {kl kc : IntKind} {y x : Int} {zs : List AV} (ho : o.op = .makeSlice t l c) (hs : slT P t = some (e, sz, by_)) (hz : zeroE P e = some zs) (hl : opd P 3 fr l = .int kl y) (hc : opd P 3 fr c = .int kc x)
    (hy : 0 ≤ y) (h0 : y ≤ x) (h1 : x * by_ ≤ 281474976710656) (h2 : x ≤ 281474976710656) : OpSem P o fr H (.hs H.length 0 y.toNat x.toNat) fr (H ++ [rep x.toNat zs]) := by
  intro b a w G ρ n ops i rest k cs hoi hw hi
  obtain ⟨hu, inf, zs', e1, e2, rfl, rfl⟩ := slT_some hs
  rw [hz] at e2; simp at e2; subst e2
  obtain ⟨z, zv, inf', q1, q2, q3, q4, q5, q6, q7⟩ := zero_sound hz
  rw [e1] at q1; simp at q1; subst q1
  have hl2 := VR.opd (P := P) (t := 3) hi.fr l
  rw [hl] at hl2
  have hl2 := hl2.int_inv
  have hc2 := VR.opd (P := P) (t := 3) hi.fr c
  rw [hc] at hc2
  have hc2 := hc2.int_inv
  have hr := run_make (P := P) (w := w) (kl := kl) (kc := kc) hu e1 q2 q3 q4 hy h0 h1 h2
  have he : (execOp a.eval o).run P w = .ok (.value (.slice (some (mkA w.heap.size 0)) y.toNat x.toNat)) (w.alloc (.cells ((List.range (x.toNat * inf.size)).map fun q => zv.toArray[q % zv.length]!).toArray e)) := by
    simp only [execOp, ho, hl2, hc2, Sem.run_bind, hr, Result.andThen_ok, Sem.run_pure]
  have hzl : zs.length = zv.length := by have := (q6 G w ρ).1; omega
  have hat : ∀ q v, ((List.range (x.toNat * inf.size)).map fun q => zv.toArray[q % zv.length]!)[q]? = some v → q < x.toNat * zv.length ∧ zv[q % zv.length]? = some v := by
    intro q v hq
    have h1 := (List.getElem?_eq_some_iff.1 hq).1
    simp at h1
    rw [q4] at h1
    have hz : 0 < zv.length := by
      rcases Nat.eq_zero_or_pos zv.length with h0 | h0
      · rw [h0] at h1; simp at h1
      · exact h0
    have hm := Nat.mod_lt q hz
    refine ⟨h1, ?_⟩
    rw [List.getElem?_map, List.getElem?_range (by rw [q4]; exact h1)] at hq
    simp only [Option.map_some, Option.some.injEq] at hq
    rw [← hq, List.getElem?_eq_getElem hm]
    simp [hm]
  have hN := newBlock (e := e) (cs := rep x.toNat zs) (vs := (List.range (x.toNat * inf.size)).map fun q => zv.toArray[q % zv.length]!) hi
    ⟨by simp [rep_length, hzl, q4], fun q c v h3 h4 => by
      obtain ⟨k1, k2⟩ := hat q v h4
      rw [rep_at (by rw [hzl]; exact k1), hzl] at h3
      exact (q6 G w ρ).2 _ c v h3 k2⟩
    (fun v hv => by
      obtain ⟨q, hq, hv⟩ := List.mem_iff_getElem.1 hv
      have := hat q v (by rw [List.getElem?_eq_getElem hq, hv])
      exact q5 v (List.mem_of_getElem? this.2))
    (fun q c v h3 h4 => by
      obtain ⟨k1, k2⟩ := hat q v h4
      rw [rep_at (by rw [hzl]; exact k1), hzl] at h3
      exact q7 _ c v h3 k2)
  refine ⟨_, _, _, [w.heap.size], .one (step_value hoi hw he), alloc_trans hi.wi _ _ _, hN.inv, ?_, by simp [SpV, Sp]⟩
  exact .hs _ _ _ _ _ _ (by rw [hi.br.len]; simp)
/-- the bytes of a block's cells are appended -/
theorem OpSem.appendH {o : Oper} {tt t2 e by_ t id off m cp : Nat} {x : Operand} {s : List UInt8} {blk : List AV} {ns : List Int} (ho : o.op = .call { callee := .builtin .append, args := #[.tmp t, x], argTypes := #[tt, t2] })
    (ht : slT P tt = some (e, 1, by_)) (h2 : isSS P t2 = true) (hD : fr t = .bs s true) (hX : opd P t2 fr x = .hs id off m cp) (hk : H[id]? = some blk) (hn : bytesE ((blk.drop off).take m) = some ns) (hm : Nat.beq ns.length m = true)
    (hns : ∀ x, x ∈ ns → 0 ≤ x ∧ x < 256) (hb : (s.length + m) * by_ ≤ 140737488355328) (hl : s.length + m ≤ 140737488355328) :
    OpSem P o fr H (.bs (s ++ ns.map toB) true) (fr.set t (un (fr t))) H := by
  have hm := Nat.eq_of_beq_eq_true hm
  intro b a w G ρ n ops i rest k cs hoi hw hi
  obtain ⟨hu, inf, zs, h3, h4, h5, rfl⟩ := slT_some ht
  have hd := hi.fr t
  have hx := VR.opd (P := P) (t := t2) hi.fr x
  rw [hX] at hx
  obtain ⟨bb, hr, he⟩ := hx.hs_inv
  obtain ⟨q1, q2⟩ := bytesE_el hn hns
  have hlen : off + m ≤ blk.length ∨ m = 0 := by simp at q1; omega
  have hel : ∀ i, i < m → blk.getD (off + i) .bad = byteEl (ns.map toB) i := by
    intro i hi'
    rw [← q2 i (by omega)]
    simp only [List.getD_eq_getElem?_getD]
    rw [List.getElem?_take, if_pos hi', List.getElem?_drop]
  obtain ⟨news, hs⟩ : ∃ news, Src P G w 1 m (byteEl (ns.map toB)) (a.eval x) news := by
    rw [he]
    rcases hlen with hlen | h0
    · obtain ⟨news, hs⟩ := src_hs (P := P) (cp := cp) hi.wi hi.br hr hk hlen (fun q g1 g2 => by
        have := hel (q - off) (by omega)
        rw [show off + (q - off) = q by omega] at this
        rw [this]; rfl)
      exact ⟨news, hs.len, hs.first, hs.first', hs.size, hs.one, fun i hi' => by rfl, fun i j c v g1 g2 g3 => hs.val i j c v g1 (by rw [hel i g1]; exact g2) g3⟩
    · subst h0
      exact ⟨[], rfl, rfl, rfl, by simp, by simp, fun i hi => absurd hi (Nat.not_lt_zero _), fun i j c v hi => absurd hi (Nat.not_lt_zero _)⟩
  have hd1 := hd.1
  have hd2 := hd.2
  rw [hD] at hd1 hd2
  have hd3 : Sp G (.slot t 0) (.sl 1 s.length (byteEl s) true) (a.tmps.getD t undef) := Sp_bs_sl.1 hd2
  obtain ⟨v', w', G', h6, h7, h8⟩ := append_core (ty := o.type) hi hu h3 h5 h4 h2 (hd1.bs_inv.of_nil (ρ := ρ)) hd3 hs hb hl
  refine ⟨v', w', G', [], .one (step_value hoi hw (append_exec ho h6)), h7, ?_⟩
  rw [List.append_nil]
  have h9 := h8.vr
  have hl2 : (ns.map toB).length = m := by simp [hm]
  rw [← hl2] at h9
  refine ⟨h8.inv, bs_append h9, SpV_of_Sp ?_ (by simp)⟩
  have := h8.sp
  rw [← hl2] at this
  exact Sp_bs_sl.2 this
end Go.Am
set_option linter.unusedSectionVars false
set_option linter.unusedVariables false
set_option linter.unusedSimpArgs false
namespace Go.Am
open Go
variable [Tab]
variable {P : Program} {G G' : Gh} {w : World} {ρ : List Nat} {n : Nat} {fr : Fr} {H : Heap} {tmps : Array Value}

theorem OpSem.strBytes {o : Oper} {s d e : TypeId} {x : Operand} {a : List UInt8} (ho : o.op = .convert s d x) (hs : P.underlying s = some .string) (hd : P.underlying d = some (.slice e)) (he : P.underlying e = some (.int .u8)) (hx : opd P s fr x = .str a) :
    OpSem P o fr H (.bs a true) fr H := by
  intro b act w G ρ n ops i rest k cs' hoi hw hi
  have hv := VR.opd (P := P) (t := s) hi.fr x
  rw [hx] at hv
  have hv := hv.str_inv
  have hsz : (ByteArray.mk a.toArray).size = a.length := by show a.toArray.size = _; simp
  let cap := grownCap w a.length 0 e
  have hge : a.length ≤ cap := grownCap_ge w a.length 0 e
  let vs : List Value := (a.map fun b => .int .u8 b.toNat) ++ List.replicate (cap - a.length) (.int .u8 0)
  have hl : vs.length = cap * 1 := by simp [vs]; omega
  have hid : Inv G w.drew ρ n fr H act.tmps := drew_inv hi
  have hN := newSl (e := e) (sz := 1) (m := a.length) (cap := cap) (el := byteEl a) (vs := vs) hid (fun v hv => by
      simp only [vs, List.mem_append, List.mem_map, List.mem_replicate] at hv
      rcases hv with ⟨b, _, rfl⟩ | ⟨_, rfl⟩ <;> rfl) hl hge (fun i _ => rfl) (fun i j c v h1 h2 h3 => by
      have hj : j = 0 := by have := (List.getElem?_eq_some_iff.1 h2).1; simpa [byteEl, AV.cells] using this
      subst hj
      simp [byteEl, AV.cells] at h2
      subst h2
      simp only [vs, Nat.mul_one, Nat.add_zero] at h3
      rw [List.getElem?_append_left (by simpa using h1)] at h3
      simp [h1] at h3
      subst h3
      simp only [List.getD_eq_getElem?_getD, List.getElem?_eq_getElem h1, Option.getD_some]
      exact .int ..) (vs.length, vs.length + 1) (fun o ho => by simp; omega)
  have hr := run_bytes_of_string (P := P) w s d e (ByteArray.mk a.toArray) hs hd he
  have hrow : bytesRow (ByteArray.mk a.toArray) (grownCap w (ByteArray.mk a.toArray).size 0 e) = vs.toArray := by
    apply Array.ext'
    simp [bytesRow, vs, cap, hsz]
  rw [hrow, hsz] at hr
  have hEx : (execOp act.eval o).run P w = .ok (.value (.slice (some (mkA w.heap.size 0)) a.length cap)) (w.drew.alloc (.cells vs.toArray e (vs.length, vs.length + 1))) := by
    simp only [execOp, ho, hv, Sem.run_bind, hr, Result.andThen_ok, Sem.run_pure, List.size_toArray]
    rfl
  refine ⟨_, _, allocG G w.drew.heap.size vs.length (rowT (a.length * 1)), [], .one (step_value hoi hw hEx), (drew_trans G w).trans (alloc_trans hid.wi _ _ _ (fun o ho _ => by rw [frozen_alloc_new]; simp; omega)), ?_⟩
  rw [List.append_nil]
  have hsp : Sp (allocG G w.drew.heap.size vs.length (rowT (a.length * 1))) (.res 0) (.sl 1 a.length (byteEl a) true) (.slice (some (mkA w.heap.size 0)) a.length cap) := hN.sp
  exact ⟨hN.inv, .bs _ _ _ _ (hN.vr.pf rfl []), SpV_of_Sp (Sp_bs_sl.2 hsp) (by simp)⟩
/-- 'copy' into a block's slice -/
def cpy (m : Nat) (el : Nat → AV) : List AV := ((List.range m).map el).flatMap AV.cells
theorem cpy_at {m sz : Nat} {el : Nat → AV} (h : ∀ i, i < m → (el i).cells.length = sz) : (cpy m el).length = m * sz ∧ ∀ i j, i < m → j < sz → (cpy m el)[i * sz + j]? = (el i).cells[j]? := by
  induction m generalizing el with
  | zero => exact ⟨by simp [cpy], fun i j hi => absurd hi (Nat.not_lt_zero _)⟩
  | succ m ih =>
    have e : cpy (m + 1) el = (el 0).cells ++ cpy m (fun i => el (i + 1)) := by
      simp [cpy, List.range_succ_eq_map, List.flatMap_map, List.map_map, Function.comp_def]
    have h0 := h 0 (by omega)
    obtain ⟨k1, k2⟩ := ih (el := fun i => el (i + 1)) (fun i hi => h (i + 1) (by omega))
    rw [e]
    refine ⟨by rw [List.length_append, k1, h0, Nat.succ_mul]; omega, fun i j hi hj => ?_⟩
    cases i with
    | zero => rw [Nat.zero_mul, Nat.zero_add, List.getElem?_append_left (by omega)]
    | succ i =>
      rw [List.getElem?_append_right (by rw [h0, Nat.succ_mul]; omega), h0, show (i + 1) * sz + j - sz = i * sz + j by rw [Nat.succ_mul]; omega]
      exact k2 i j (by omega) hj
theorem run_copy {dT sT ty e : TypeId} {inf : TypeInfo} {b off dLen dCap m k : Nat} {x : Value} {news : List Value} (hu : P.underlying dT = some (.slice e)) (hi : P.info? e = some inf) (hm : (Builtin.lenOf x).run P w = .ok m w) (hk : Nat.min m dLen = k)
    (hf : (Builtin.firstCells inf.size k x).run P w = .ok news.toArray w) (hw : WI G w) (hwr : Wr G w b off news) :
    (Builtin.copy_ #[dT, sT] ty #[.slice (some (mkA b off)) dLen dCap, x]).run P w = .ok (.int .i64 k) (w.setCells b off news) := by
  have hst := hwr.runs (P := P) hw
  simp only [Builtin.copy_, List.getElem?_toArray, List.getElem?_cons_zero, List.getElem?_cons_succ, Sem.run_bind, run_und hu, Result.andThen_ok, hm, hk, sizeOf, run_ti hi, Sem.run_pure, hf, hst, goInt]
/-- the source's first elements -/
structure SrcK (P : Program) (G : Gh) (w : World) (sz m k : Nat) (el : Nat → AV) (x : Value) (news : List Value) : Prop where
  len : (Builtin.lenOf x).run P w = .ok m w
  first : (Builtin.firstCells sz k x).run P w = .ok news.toArray w
  size : news.length = k * sz
  one : ∀ v, v ∈ news → v.oneCell' = true
  elsz : ∀ i, i < k → (el i).cells.length = sz
  val : ∀ (i j : Nat) (c : AV) (v : Value), i < k → (el i).cells[j]? = some c → news[i * sz + j]? = some v → VR G w [] c v
theorem srcK_sl {sz m k : Nat} {el : Nat → AV} {o : Bool} {x : Value} (hw : WI G w) (h : VR G w ρ (.sl sz m el o) x) (hk : k ≤ m) : ∃ news, SrcK P G w sz m k el x news := by
  obtain ⟨base, cap, vs, rfl, e1, e2, e3, e4, e5⟩ := h.sl_inv
  have hkm : k * sz ≤ m * sz := Nat.mul_le_mul_right _ hk
  cases base with
  | none =>
    have : m = 0 := by have := e2 rfl; omega
    subst this
    have : k = 0 := by omega
    subst this
    exact ⟨[], rfl, rfl, by simp, by simp, fun i hi => absurd hi (Nat.not_lt_zero _), fun i j c v hi => absurd hi (Nat.not_lt_zero _)⟩
  | some p =>
    obtain ⟨b, off⟩ := p
    refine ⟨(List.range (k * sz)).map vs, rfl, ?_, by simp, fun v hv => ?_, fun i hi => e3 i (by omega), fun i j c v h1 h2 h3 => ?_⟩
    · have := run_loadCells (P := P) w (mkA b off) (k * sz) vs (fun q hq => by rw [mkA_add]; exact (e4 b off rfl q (by omega)).2)
      simpa [Builtin.firstCells] using this
    · obtain ⟨q, hq, rfl⟩ := List.mem_map.1 hv
      have := e4 b off rfl q (by have := List.mem_range.1 hq; omega)
      exact hw.one _ _ _ (.inl this.1) this.2
    · have hj : j < sz := by rw [← e3 i (by omega)]; exact (List.getElem?_eq_some_iff.1 h2).1
      have hq : i * sz + j < k * sz := by
        have : (i + 1) * sz ≤ k * sz := Nat.mul_le_mul_right _ h1
        rw [Nat.succ_mul] at this; omega
      simp [hq] at h3
      subst h3
      exact e5 i j c (by omega) h2
theorem srcK_str {s : List UInt8} {x : Value} {k : Nat} (h : VR G w ρ (.str s) x) (hk : k ≤ s.length) : ∃ news, SrcK P G w 1 s.length k (byteEl s) x news := by
  obtain rfl := h.str_inv
  have hs : (ByteArray.mk s.toArray).size = s.length := by show s.toArray.size = _; simp
  have hx : ((ByteArray.mk s.toArray).extract 0 k).data = (s.take k).toArray := by
    simp [ByteArray.data_extract]
  refine ⟨(s.take k).map fun b => .int .u8 b.toNat, by simp [Builtin.lenOf, hs], ?_, by simp; omega, fun v hv => by obtain ⟨b, _, rfl⟩ := List.mem_map.1 hv; rfl, fun i _ => rfl, fun i j c v h1 h2 h3 => ?_⟩
  · simp only [Builtin.firstCells, hx, Sem.run_pure]; simp
  · have hj : j = 0 := by have := (List.getElem?_eq_some_iff.1 h2).1; simpa [byteEl, AV.cells] using this
    subst hj
    simp [byteEl, AV.cells] at h2
    subst h2
    simp [h1, show i < s.length by omega] at h3
    subst h3
    simp only [List.getD_eq_getElem?_getD, List.getElem?_eq_getElem (show i < s.length by omega), Option.getD_some]
    exact .int ..
def srcE (x : AV) : Option (Nat × Nat × (Nat → AV)) :=
  match x with
  | .bs s _ => some (1, s.length, byteEl s)
  | .str s => some (1, s.length, byteEl s)
  | .sl sz m el _ => some (sz, m, el)
  | _ => none
theorem srcK_E {x : AV} {sz m k : Nat} {el : Nat → AV} {vx : Value} (hs : srcE x = some (sz, m, el)) (hw : WI G w) (h : VR G w ρ x vx) (hk : k ≤ m) : ∃ news, SrcK P G w sz m k el vx news := by
  unfold srcE at hs
  split at hs <;> simp only [Option.some.injEq, Prod.mk.injEq, reduceCtorEq] at hs <;> obtain ⟨rfl, rfl, rfl⟩ := hs
  · exact srcK_sl hw h.bs_inv hk
  · exact srcK_str h hk
  · exact srcK_sl hw h hk
theorem OpSem.copy {o : Oper} {dT sT e by_ sz id off m cp k sm : Nat} {d x : Operand} {sx : AV} {el : Nat → AV} {blk : List AV} (ho : o.op = .call { callee := .builtin .copy, args := #[d, x], argTypes := #[dT, sT] })
    (ht : slT P dT = some (e, sz, by_)) (hD : opd P dT fr d = .hs id off m cp) (hX : opd P sT fr x = sx) (hS : srcE sx = some (sz, sm, el)) (hk : Nat.min sm m = k) (hB : H[id]? = some blk) (hl : off + k * sz ≤ blk.length) (hc : ∀ i, i < k → (el i).cells.all isCell = true) :
    OpSem P o fr H (.int .i64 k) fr (H.set id (putCells blk off ((cpy k el).map un1))) := by
  intro b a w G ρ n ops i rest k' cs hoi hw hi
  obtain ⟨hu, inf, zs, h3, h4, rfl, rfl⟩ := slT_some ht
  have hd := VR.opd (P := P) (t := dT) hi.fr d
  rw [hD] at hd
  obtain ⟨b', hr, hde⟩ := hd.hs_inv
  have hx := VR.opd (P := P) (t := sT) hi.fr x
  rw [hX] at hx
  have hkm : k ≤ sm := by rw [← hk]; exact Nat.min_le_left ..
  obtain ⟨news, hs⟩ := srcK_E (P := P) hS hi.wi hx hkm
  obtain ⟨c1, c2⟩ := cpy_at hs.elsz
  have hvr : VRs G w ρ (cpy k el) news := ⟨by rw [hs.size, c1], fun q c v h1 h2 => by
    have hq := (List.getElem?_eq_some_iff.1 h1).1
    rw [c1] at hq
    have hz : 0 < inf.size := by
      rcases Nat.eq_zero_or_pos inf.size with h0 | h0
      · rw [h0] at hq; simp at hq
      · exact h0
    have hi1 : q / inf.size < k := by rw [Nat.div_lt_iff_lt_mul hz]; exact hq
    have hj := Nat.mod_lt q hz
    have hqe : q / inf.size * inf.size + q % inf.size = q := by rw [Nat.mul_comm]; exact Nat.div_add_mod ..
    have := c2 _ _ hi1 hj
    rw [hqe, h1] at this
    exact (hs.val _ _ c v hi1 this.symm (by rw [hqe]; exact h2)).of_nil⟩
  have hcell : ((cpy k el).map un1).all isCell = true := by
    rw [List.all_eq_true]
    intro y hy
    obtain ⟨z, hz, rfl⟩ := List.mem_map.1 hy
    obtain ⟨x, hx, hz⟩ := List.mem_flatMap.1 hz
    obtain ⟨i, hi, rfl⟩ := List.mem_map.1 hx
    have := (List.all_eq_true.1 (hc i (by simpa using hi))) z hz
    cases z <;> simp_all [Am.un1, isCell]
  obtain ⟨hwr, hinv⟩ := store_inv (off := off) hi hr hB hvr.un1 hcell (fun y hy G t v => by obtain ⟨z, hz, rfl⟩ := List.mem_map.1 hy; exact Sp_un1 ..) (by simpa [c1] using hl)
  have hrun := run_copy (P := P) (ty := o.type) (sT := sT) (dCap := cp) hu h3 hs.len hk hs.first hi.wi hwr
  have hEx : (execOp a.eval o).run P w = .ok (.value (.int .i64 k)) (w.setCells b' off news) := by
    simp only [execOp, ho, resolve, invoke, builtin]
    have : (#[d, x].map a.eval) = #[.slice (some (mkA b' off)) m cp, a.eval x] := by simp [hde]
    rw [this]
    simp only [Sem.run_bind, Sem.run_pure, Result.andThen_ok, hrun]
  exact ⟨_, _, reG (clrT id off ((cpy k el).map un1).length) G, [], .one (step_value hoi hw hEx), hwr.trans.trans ((clrT_re ..).trans _ _), by
    rw [List.append_nil]
    exact ⟨hinv, .int .., by simp [SpV, Sp]⟩⟩
end Go.Am
set_option linter.unusedSectionVars false
set_option linter.unusedVariables false
set_option linter.unusedSimpArgs false
namespace Go.Am
open Go
variable [Tab]
variable {P : Program} {G G' : Gh} {w w' : World} {ρ : List Nat} {n : Nat} {fr : Fr} {H : Heap} {tmps : Array Value}

def pfA : AV → Bool
  | .agg cs => cs.all pf
  | .tup _ => false
  | .bad => true
  | x => pf x
def pfR : AV → Bool
  | .tup vs => vs.all pfA
  | x => pfA x
theorem VR.pfA {x : AV} {v : Value} (h : VR G w ρ x v) (hp : pfA x = true) (ρ' : List Nat) : VR G w ρ' x v := by
  cases x with
  | agg cs =>
    obtain ⟨vs, rfl, hl, hv⟩ := h.agg_inv
    simp only [Am.pfA, List.all_eq_true] at hp
    exact .agg _ _ _ hl fun q c v h1 h2 => (hv q c v h1 h2).pf (hp c (List.mem_of_getElem? h1)) _
  | tup => simp [Am.pfA] at hp
  | bad => exact .bad _ _
  | _ => exact h.pf hp _
theorem VR.pfR {x : AV} {v : Value} (h : VR G w ρ x v) (hp : pfR x = true) (ρ' : List Nat) : VR G w ρ' x v := by
  cases x with
  | tup cs =>
    obtain ⟨vs, rfl, hl, hv⟩ := h.tup_inv
    simp only [Am.pfR, List.all_eq_true] at hp
    exact .tup _ _ _ hl fun q c v h1 h2 => (hv q c v h1 h2).pfA (hp c (List.mem_of_getElem? h1)) _
  | _ => exact h.pfA hp _
/-- an argument, in the callee's numbers -/
def lendE (L : List Nat) : AV → Option AV
  | .ptr id off => (L.idxOf? id).map fun j => .ptr j off
  | .hs id off m c => (L.idxOf? id).map fun j => .hs j off m c
  | x => bif pfA x then some x else none
def lendAll (L : List Nat) : List AV → Option (List AV)
  | [] => some []
  | x :: r => match lendE L (un1 x), lendAll L r with
    | some y, some l => some (y :: l)
    | _, _ => none
def inG (L : List Nat) : Own → Own
  | .cell id => match L.idxOf? id with | some j => .cell j | none => .ctx
  | .spare id q => match L.idxOf? id with | some j => .spare j q | none => .ctx
  | .frz => .frz
  | .free => .free
  | _ => .ctx
def lentT (L : List Nat) : Own → Bool
  | .cell id => (L.idxOf? id).isSome
  | .spare id _ => (L.idxOf? id).isSome
  | .free => true
  | _ => false
def outG (L : List Nat) : Own → Own
  | .cell j => match L[j]? with | some id => .cell id | none => .free
  | .spare j q => match L[j]? with | some id => .spare id q | none => .free
  | .frz => .frz
  | .res c => .res c
  | _ => .free
def backG (L : List Nat) (G G' : Gh) : Gh := fun b o => bif lentT L (G b o) then outG L (G' b o) else G b o
theorem idxOf_some {L : List Nat} {id j : Nat} (h : L.idxOf? id = some j) : L[j]? = some id := by
  rw [List.idxOf?, List.findIdx?_eq_some_iff_getElem] at h
  obtain ⟨h1, h2, _⟩ := h
  rw [List.getElem?_eq_getElem h1]
  simpa using h2
theorem idxOf_of {L : List Nat} (hL : L.Nodup) {id j : Nat} (h : L[j]? = some id) : L.idxOf? id = some j := by
  rw [List.idxOf?, List.findIdx?_eq_some_iff_getElem]
  obtain ⟨h1, h2⟩ := List.getElem?_eq_some_iff.1 h
  refine ⟨h1, by simp [h2], fun k hk => ?_⟩
  have hne : L[k] ≠ L[j] := by
    exact (List.pairwise_iff_getElem.1 hL) k j (by omega) h1 hk
  simp only [h2] at hne
  simpa using hne
theorem inG_frz {L t} : inG L t = .frz ↔ t = .frz := by
  cases t <;> simp [inG] <;> split <;> simp
theorem inG_keep {L t} (h : lentT L t = false) : inG L t = .frz ∨ inG L t = .ctx := by
  cases t with
  | cell id =>
    simp only [lentT] at h
    simp only [inG]
    cases hx : L.idxOf? id with
    | none => exact .inr rfl
    | some j => rw [hx] at h; cases h
  | spare id q =>
    simp only [lentT] at h
    simp only [inG]
    cases hx : L.idxOf? id with
    | none => exact .inr rfl
    | some j => rw [hx] at h; cases h
  | _ => simp_all [inG, lentT]
theorem in_keeps (L : List Nat) (G : Gh) (w : World) : Keeps G w (fun b o => inG L (G b o)) w := fun b o e => ⟨by show inG L (G b o) = .frz; rw [e]; rfl, rfl⟩
theorem inG_mine {L t} (h : (inG L t).mine = true) : t.mine = true := by
  cases t <;> simp_all [inG, Own.mine]
theorem in_wi (L : List Nat) (h : WI G w) : WI (fun b o => inG L (G b o)) w :=
  ⟨fun b o e => h.own b o (inG_mine e), fun b o e => by simp only [h.old b o e]; rfl, fun b o v e => h.one b o v (e.imp inG_frz.1 inG_mine), fun b cs e => ⟨(h.tab b cs e).1, fun o => (h.tab b cs e).2 o |>.imp (fun e => by show inG L (G b o) = .frz; rw [e]; rfl) (fun e => by show inG L (G b o) = .ctx; rw [e]; rfl)⟩⟩
def winH (L : List Nat) (H : Heap) : Heap := L.map fun id => H.getD id []
theorem in_br {L : List Nat} (hL : L.Nodup) (h : BR G w ρ H) (hlt : ∀ id ∈ L, id < H.length) (hp : (winH L H).all (·.all pf) = true) :
    BR (fun b o => inG L (G b o)) w (L.map fun id => ρ.getD id 0) (winH L H) := by
  refine ⟨by simp [winH], fun j b blk q c h1 h2 h3 => ?_⟩
  unfold winH at h2
  rw [List.getElem?_map, Option.map_eq_some_iff] at h1 h2
  obtain ⟨id, hid, rfl⟩ := h1
  obtain ⟨id', hid', rfl⟩ := h2
  rw [hid] at hid'; simp at hid'; subst hid'
  have hl := hlt id (List.mem_of_getElem? hid)
  have hl2 : id < ρ.length := by rw [← h.len]; exact hl
  have e1 : ρ[id]? = some (ρ.getD id 0) := by simp [List.getD_eq_getElem?_getD, List.getElem?_eq_getElem hl2]
  have e2 : H[id]? = some (H.getD id []) := by simp [List.getD_eq_getElem?_getD, List.getElem?_eq_getElem hl]
  obtain ⟨k1, v, k2, k3, k4⟩ := h.cell id _ _ q c e1 e2 h3
  have hix := idxOf_of hL hid
  refine ⟨by simp only [k1, inG, hix], v, k2, ?_, k4.map fun b o e => by simp only [e, inG, hix]⟩
  have hpc : pf c = true := by
    simp only [List.all_eq_true] at hp
    exact hp _ (List.mem_map.2 ⟨id, List.mem_of_getElem? hid, rfl⟩) c (List.mem_of_getElem? h3)
  exact (k3.keep (in_keeps L G w)).pf hpc _
theorem lendE_vr {L : List Nat} {x y : AV} {v : Value} (h : lendE L x = some y) (hv : VR G w ρ x v) (hlt : ∀ id ∈ L, id < ρ.length) : VR (fun b o => inG L (G b o)) w (L.map fun id => ρ.getD id 0) y v := by
  have hk := hv.keep (in_keeps L G w)
  have find : ∀ {id j b}, L.idxOf? id = some j → ρ[id]? = some b → (L.map fun id => ρ.getD id 0)[j]? = some b := by
    intro id j b h1 h2
    have := idxOf_some h1
    rw [List.getElem?_map, this]
    simp [List.getD_eq_getElem?_getD, h2]
  cases x with
  | ptr id off =>
    simp only [lendE, Option.map_eq_some_iff] at h
    obtain ⟨j, hj, rfl⟩ := h
    obtain ⟨b, hb, rfl⟩ := hv.ptr_inv
    exact .ptr _ _ _ _ (find hj hb)
  | hs id off m c =>
    simp only [lendE, Option.map_eq_some_iff] at h
    obtain ⟨j, hj, rfl⟩ := h
    obtain ⟨b, hb, rfl⟩ := hv.hs_inv
    exact .hs _ _ _ _ _ _ (find hj hb)
  | _ =>
    simp only [lendE, cond_eq_ite] at h
    split at h
    · rename_i hp
      simp only [Option.some.injEq] at h
      subst h
      exact hk.pfA hp _
    · simp at h
theorem lendE_nr {L : List Nat} {x y : AV} (h : lendE L (un1 x) = some y) : nr y = true := by
  cases x <;> simp only [un1, lendE, Option.map_eq_some_iff, cond_eq_ite] at h <;> first
    | (obtain ⟨j, _, rfl⟩ := h; rfl)
    | (simp [Am.pfA] at h; done)
    | (split at h <;> simp only [Option.some.injEq, reduceCtorEq] at h; subst h; rfl)
theorem lendAll_at {L : List Nat} : ∀ {xs ys : List AV}, lendAll L xs = some ys → ys.length = xs.length ∧ ∀ (i : Nat) (x y : AV), xs[i]? = some x → ys[i]? = some y → lendE L (un1 x) = some y
  | [], ys, h => by simp [lendAll] at h; subst h; exact ⟨rfl, fun i x y h => by simp at h⟩
  | x :: r, ys, h => by
    unfold lendAll at h
    split at h
    · rename_i y l h1 h2
      simp only [Option.some.injEq] at h
      subst h
      obtain ⟨k1, k2⟩ := lendAll_at h2
      refine ⟨by simp [k1], fun i a b e1 e2 => ?_⟩
      cases i with
      | zero => simp at e1 e2; subst e1; subst e2; exact h1
      | succ i => exact k2 i a b (by simpa using e1) (by simpa using e2)
    · simp at h
/-- the caller's blocks behind the call -/
def backH (L : List Nat) (H Hc : Heap) : Heap := H.mapIdx fun id blk => match L.idxOf? id with | some j => Hc.getD j [] | none => blk
theorem step_call {ops : Array Oper} {o : Oper} {i : Nat} {rest : List Nat} {g : FuncId} {args : Array Value} {b : Frame} {a : Act} {k : List Item} {cs : List Frame} {R : Value → World → Prop} (ho : ops[i]? = some o) (hw : Region.wanted o (yielded ops a.tmps) = true)
    (hr : (execOp a.eval o).run P w = .ok (.enter g args) w) (h : Calls P g args w fun e w' => ∃ v, e = .returned v ∧ R v w') :
    ∃ v w', R v w' ∧ Steps P (lone (b.at a (.inRegion ops (i :: rest) :: k)) cs w) (lone (b.at (a.put o.dst v) (.inRegion ops rest :: k)) cs w') := by
  have hg := stepG_op (P := P) (b := b) (k := k) (cs := cs) (w := w) (rest := rest) ho hw
  have hfin : ∀ v, (b.at a (.inRegion ops (i :: rest) :: k)).finish v = b.at (a.put o.dst v) (.inRegion ops rest :: k) := by
    intro v; rw [Frame.finish_at, ho]; rfl
  obtain ⟨e, w'', fr, ⟨v, rfl, hR⟩, hsteps, _, hleave⟩ := h (b.at a (.inRegion ops (i :: rest) :: k) :: cs)
  have henter : step P (lone (b.at a (.inRegion ops (i :: rest) :: k)) cs w) = .next (lone (Frame.enter P g args .normal) (b.at a (.inRegion ops (i :: rest) :: k) :: cs) w) :=
    step_lone_go (by rw [hg]; simp [stepG.apply, hr, Frame.at])
  refine ⟨v, w'', hR, .head henter (hsteps.trans (.one ?_))⟩
  rw [← hfin]; exact step_leave_returned hleave
theorem backH_at {L : List Nat} {H Hc : Heap} {id : Nat} : (backH L H Hc)[id]? = (H[id]?).map fun blk => match L.idxOf? id with | some j => Hc.getD j [] | none => blk := by
  simp [backH, List.getElem?_mapIdx]
/-- what a call does, seen by the caller -/
theorem call_back {L : List Nat} (hL : L.Nodup) (hlt : ∀ id ∈ L, id < H.length) {res : AV} {Hc' : Heap} {v : Value} {ρ' : List Nat} (hi : Inv G w ρ n fr H tmps)
    (hp : Post L.length (fun b o => inG L (G b o)) w (L.map fun id => ρ.getD id 0) res Hc' v w' G' ρ') (hlen : Hc'.length = L.length) (hpf : Hc'.all (·.all pf) = true) (hres : pfR res = true) :
    Trans G w (backG L G G') w' ∧ InvV (backG L G G') w' ρ n fr (backH L H Hc') tmps res v := by
  obtain ⟨ht, hw', hρ, hbr, hvr, hsp⟩ := hp
  have hρl : ρ'.length = L.length := by rw [← hbr.len, hlen]
  have hρ : ρ' = L.map fun id => ρ.getD id 0 := by
    rw [List.take_of_length_le (by omega), List.take_of_length_le (by simp)] at hρ
    exact hρ
  subst hρ
  -- what isn't lent stays
  have stay : ∀ b o, lentT L (G b o) = false → backG L G G' b o = G b o ∧ w'.cell? (mkA b o) = w.cell? (mkA b o) ∧ w'.frozen? (mkA b o) = w.frozen? (mkA b o) := by
    intro b o h
    refine ⟨by unfold backG; rw [h]; rfl, ht.cell b o (inG_keep h)⟩
  have hk : Keeps G w (backG L G G') w' := fun b o e => by
    obtain ⟨h1, h2, _⟩ := stay b o (by rw [e]; rfl)
    exact ⟨h1.trans e, h2⟩
  have hk2 : Keeps G' w' (backG L G G') w' := fun b o e => by
    refine ⟨?_, rfl⟩
    unfold backG
    cases hl : lentT L (G b o) with
    | true => simp [outG, e]
    | false =>
      rcases inG_keep hl with h | h
      · rw [inG_frz.1 h]; rfl
      · have := ht.ctx b o h
        rw [e] at this; cases this
  have lent : ∀ b o, lentT L (G b o) = true → backG L G G' b o = outG L (G' b o) := fun b o h => by unfold backG; rw [h]; rfl
  -- an owner of the callee's is at a lent place
  have isLent : ∀ b o, (G' b o).mine = true → lentT L (G b o) = true := by
    intro b o h
    cases hl : lentT L (G b o) with
    | true => rfl
    | false =>
      rcases inG_keep hl with h1 | h1
      · rw [ht.frz b o h1] at h; cases h
      · rw [ht.ctx b o h1] at h; cases h
  have hT : Trans G w (backG L G G') w' := by
    refine ⟨ht.os, ht.tape, ht.output, ht.size, fun b o e => (hk b o e).1, fun b o e => ?_, fun b o e => ?_, fun b hb e => ht.blk b hb fun o => ?_, fun b o e1 e2 => ?_⟩
    · exact (stay b o (by rw [e]; rfl)).1.trans e
    · exact (stay b o (by rcases e with e | e <;> rw [e] <;> rfl)).2
    · rcases e o with e | e
      · exact .inl (by simp only [e]; rfl)
      · exact .inr (by simp only [e]; rfl)
    · cases hl : lentT L (G b o) with
      | false => rw [(stay b o hl).1] at e2; exact absurd e2 e1
      | true =>
        rw [lent b o hl] at e2
        refine ht.fz b o (fun e => e1 (inG_frz.1 e)) ?_
        generalize G' b o = t at e2
        cases t <;> simp_all [outG]
        all_goals (split at e2 <;> simp at e2)
  refine ⟨hT, ⟨hi.size, fun i => ⟨(hi.fr i).1.keep hk, (hi.fr i).2.map fun c b o e => ?_⟩, ⟨by simp [backH, hi.br.len], fun id b blk j c h1 h2 h3 => ?_⟩, ⟨fun b o e => ?_, fun b o e => ?_, fun b o v e1 e2 => ?_, hi.wi.tab.trans hT⟩⟩, (hvr.keep hk2).pfR hres _, hsp.map fun c b o e => ?_⟩
  · exact (stay b o (by rw [e]; rfl)).1.trans e
  · rw [backH_at, Option.map_eq_some_iff] at h2
    obtain ⟨blk0, h2, hb⟩ := h2
    cases hx : L.idxOf? id with
    | none =>
      rw [hx] at hb
      simp only at hb
      subst hb
      obtain ⟨k1, v, k2, k3, k4⟩ := hi.br.cell id b blk0 j c h1 h2 h3
      obtain ⟨s1, s2, _⟩ := stay b j (by rw [k1]; simp [lentT, hx])
      exact ⟨s1.trans k1, v, s2.trans k2, k3.keep hk, k4.map fun b o e => (stay b o (by rw [e]; simp [lentT, hx])).1.trans e⟩
    | some q =>
      rw [hx] at hb
      simp only at hb
      subst hb
      have hq := idxOf_some hx
      have hql : q < L.length := (List.getElem?_eq_some_iff.1 hq).1
      have hqh : q < Hc'.length := by omega
      have e1 : (L.map fun id => ρ.getD id 0)[q]? = some b := by rw [List.getElem?_map, hq]; simp [List.getD_eq_getElem?_getD, h1]
      have e2 : Hc'[q]? = some (Hc'.getD q []) := by simp [List.getD_eq_getElem?_getD, List.getElem?_eq_getElem hqh]
      obtain ⟨k1, v, k2, k3, k4⟩ := hbr.cell q b _ j c e1 e2 h3
      have hl := isLent b j (by rw [k1]; rfl)
      refine ⟨by rw [lent b j hl, k1]; simp [outG, hq], v, k2, ?_, k4.map fun b o e => by rw [lent b o (isLent b o (by rw [e]; rfl)), e]; simp [outG, hq]⟩
      have hpc : pf c = true := by
        simp only [List.all_eq_true] at hpf
        exact hpf _ (List.mem_of_getElem? e2) c (List.mem_of_getElem? h3)
      exact (k3.keep hk2).pf hpc _
  · cases hl : lentT L (G b o) with
    | false =>
      obtain ⟨s1, s2, s3⟩ := stay b o hl
      rw [s1] at e
      obtain ⟨k1, k2⟩ := hi.wi.own b o e
      exact ⟨by rw [s2]; exact k1, by rw [s3]; exact k2⟩
    | true =>
      rw [lent b o hl] at e
      refine hw'.own b o ?_
      generalize G' b o = t at e
      cases t <;> simp_all [outG, Own.mine]
  · have h1 : G b o = .free := hi.wi.old b o (Nat.le_trans ht.size e)
    have h2 : G' b o = .free := hw'.old b o e
    rw [lent b o (by rw [h1]; rfl), h2]; rfl
  · cases hl : lentT L (G b o) with
    | false =>
      obtain ⟨s1, s2, s3⟩ := stay b o hl
      rw [s1] at e1
      rw [s2] at e2
      exact hi.wi.one b o v e1 e2
    | true =>
      rw [lent b o hl] at e1
      refine hw'.one b o v ?_ e2
      generalize G' b o = t at e1
      cases t <;> simp_all [outG, Own.mine]
  · rw [lent b o (isLent b o (by rw [e]; rfl)), e]; rfl
/-- is it a function with a body? -/
def hasBody (P : Program) (g : FuncId) : Bool := match P.funcs[g]? with
  | some fn => fn.body.isSome && !(fn.name == "runtime.NumGoroutine")
  | none => false
theorem run_callFunc {g : FuncId} (h : hasBody P g = true) (args : Array Value) : (callFunc g args).run P w = .ok (.enter g args) w := by
  unfold hasBody at h
  split at h
  · rename_i fn hf
    simp only [Bool.and_eq_true, Bool.not_eq_true'] at h
    have h2 : ¬ fn.body = none := by intro e; rw [e] at h; simp at h
    have h3 : ¬ fn.name = "runtime.NumGoroutine" := by simpa using h.2
    simp [callFunc, hf, h2, h3]
  · simp at h
theorem OpSem.call {o : Oper} {c : Call} {f : Operand} {g : FuncId} {cap args xs : List AV} {L : List Nat} {res : AV} {Hc' : Heap} (ho : o.op = .call c) (hc : c.callee = .value f) (hf : opd P 0 fr f = .fn (.func g) cap) (hg : hasBody P g = true)
    (hx : (c.args.toList.zipIdx.map fun p => opd P (c.argTypes.getD p.2 0) fr p.1) ++ cap = xs) (ha : lendAll L xs = some args) (hL : L.Nodup) (hlt : L.all (fun id => Nat.blt id H.length) = true) (hp : (winH L H).all (·.all pf) = true)
    (hfn : FnOK P g args (winH L H) res Hc') (hlen : Nat.beq Hc'.length L.length = true) (hpf : Hc'.all (·.all pf) = true) (hres : pfR res = true) : OpSem P o fr H res fr (backH L H Hc') := by
  have hlen := Nat.eq_of_beq_eq_true hlen
  have hlt : ∀ id ∈ L, id < H.length := fun id hid => Nat.le_of_ble_eq_true ((List.all_eq_true.1 hlt) id hid)
  intro b a w G ρ n ops i rest k cs hoi hw hi
  have hvf := VR.opd (P := P) (t := 0) hi.fr f
  rw [hf] at hvf
  obtain ⟨cv, hcv, hcl, hcr⟩ := hvf.fn_inv
  let vs : List Value := c.args.toList.map a.eval ++ cv
  have hxs : ∀ (q : Nat) (x : AV) (v : Value), xs[q]? = some x → vs[q]? = some v → VR G w ρ x v := by
    intro q x v h1 h2
    rw [← hx] at h1
    rcases Nat.lt_or_ge q c.args.toList.length with hq | hq
    · rw [List.getElem?_append_left (by simpa using hq)] at h1
      simp only [vs] at h2
      rw [List.getElem?_append_left (by simpa using hq)] at h2
      rw [List.getElem?_map, Option.map_eq_some_iff] at h1 h2
      obtain ⟨p, hp1, rfl⟩ := h1
      obtain ⟨y, hy, rfl⟩ := h2
      rw [List.getElem?_zipIdx, hy] at hp1
      simp at hp1
      subst hp1
      exact VR.opd hi.fr _
    · rw [List.getElem?_append_right (by simpa using hq)] at h1
      simp only [vs] at h2
      rw [List.getElem?_append_right (by simpa using hq)] at h2
      simp only [List.length_map, List.length_zipIdx] at h1 h2
      exact hcr _ x v h1 h2
  have hxl : vs.length = xs.length := by rw [← hx]; simp [vs, hcl]
  obtain ⟨k1, k2⟩ := lendAll_at ha
  have hlt2 : ∀ id ∈ L, id < ρ.length := fun id h => by rw [← hi.br.len]; exact hlt id h
  have hcalls := hfn w (fun b o => inG L (G b o)) (L.map fun id => ρ.getD id 0) vs (by omega) (fun q y v h1 h2 => by
    have hq : q < xs.length := by have := (List.getElem?_eq_some_iff.1 h1).1; omega
    have hy := k2 q xs[q] y (List.getElem?_eq_getElem hq) h1
    have hv := (hxs q xs[q] v (List.getElem?_eq_getElem hq) h2).un1
    exact ⟨lendE_vr hy hv hlt2, SpV_nr (lendE_nr hy)⟩) (in_br hL hi.br hlt hp) (in_wi L hi.wi)
  have hEx : (execOp a.eval o).run P w = .ok (.enter g vs.toArray) w := by
    have hcap : (c.args.map a.eval) ++ cv.toArray = vs.toArray := by apply Array.ext'; simp [vs]
    simp only [execOp, ho, resolve, hc, hcv, Deferred.ofValue, Sem.run_bind, Sem.run_pure, Result.andThen_ok, invoke, Array.empty_append, hcap]
    exact run_callFunc hg _
  obtain ⟨v, w', ⟨G', ρ', hpost⟩, hst⟩ := step_call (R := fun v w' => ∃ G' ρ', Post L.length (fun b o => inG L (G b o)) w (L.map fun id => ρ.getD id 0) res Hc' v w' G' ρ') (b := b) (k := k) (cs := cs) (rest := rest) hoi hw hEx (hcalls.mono fun e w' ⟨v, G', ρ', h1, h2⟩ => ⟨v, h1, G', ρ', by simpa [winH] using h2⟩)
  obtain ⟨r1, r2⟩ := call_back hL hlt hi hpost hlen hpf hres
  exact ⟨v, w', backG L G G', [], hst, r1, by rw [List.append_nil]; exact r2⟩
end Go.Am
