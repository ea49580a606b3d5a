/- The abstract machine: bytes of a string; 'copy'; ownership in memory. -/
import Derived.Test.YtnohmijdpmelpaaGreatAm18
import Derived.Laws.IdiomStrings
set_option linter.unusedSectionVars false
set_option linter.unusedVariables false
set_option linter.unusedSimpArgs false
namespace Go.Am
open Go
variable [Tab]
variable {P : Program} {G G' : Gh} {w : World} {ρ : List Nat} {n : Nat} {fr : Fr} {H : Heap} {tmps : Array Value}

theorem OpSem.strBytes {o : Oper} {s d e : TypeId} {x : Operand} {a : List UInt8} (ho : o.op = .convert s d x) (hs : P.underlying s = some .string) (hd : P.underlying d = some (.slice e)) (he : P.underlying e = some (.int .u8)) (hx : opd P s fr x = .str a) :
    OpSem P o fr H (.bs a true) fr H := by
  intro b act w G ρ n ops i rest k cs' hoi hw hi
  have hv := VR.opd (P := P) (t := s) hi.fr x
  rw [hx] at hv
  have hv := hv.str_inv
  have hsz : (ByteArray.mk a.toArray).size = a.length := by show a.toArray.size = _; simp
  let cap := grownCap w a.length 0 e
  have hge : a.length ≤ cap := grownCap_ge w a.length 0 e
  let vs : List Value := (a.map fun b => .int .u8 b.toNat) ++ List.replicate (cap - a.length) (.int .u8 0)
  have hl : vs.length = cap * 1 := by simp [vs]; omega
  have hid : Inv G w.drew ρ n fr H act.tmps := drew_inv hi
  have hN := newSl (e := e) (sz := 1) (m := a.length) (cap := cap) (el := byteEl a) (vs := vs) hid (fun v hv => by
      simp only [vs, List.mem_append, List.mem_map, List.mem_replicate] at hv
      rcases hv with ⟨b, _, rfl⟩ | ⟨_, rfl⟩ <;> rfl) hl hge (fun i _ => rfl) (fun i j c v h1 h2 h3 => by
      have hj : j = 0 := by have := (List.getElem?_eq_some_iff.1 h2).1; simpa [byteEl, AV.cells] using this
      subst hj
      simp [byteEl, AV.cells] at h2
      subst h2
      simp only [vs, Nat.mul_one, Nat.add_zero] at h3
      rw [List.getElem?_append_left (by simpa using h1)] at h3
      simp [h1] at h3
      subst h3
      simp only [List.getD_eq_getElem?_getD, List.getElem?_eq_getElem h1, Option.getD_some]
      exact .int ..) (vs.length, vs.length + 1) (fun o ho => by simp; omega)
  have hr := run_bytes_of_string (P := P) w s d e (ByteArray.mk a.toArray) hs hd he
  have hrow : bytesRow (ByteArray.mk a.toArray) (grownCap w (ByteArray.mk a.toArray).size 0 e) = vs.toArray := by
    apply Array.ext'
    simp [bytesRow, vs, cap, hsz]
  rw [hrow, hsz] at hr
  have hEx : (execOp act.eval o).run P w = .ok (.value (.slice (some (mkA w.heap.size 0)) a.length cap)) (w.drew.alloc (.cells vs.toArray e (vs.length, vs.length + 1))) := by
    simp only [execOp, ho, hv, Sem.run_bind, hr, Result.andThen_ok, Sem.run_pure, List.size_toArray]
    rfl
  refine ⟨_, _, allocG G w.drew.heap.size vs.length (rowT (a.length * 1)), [], .one (step_value hoi hw hEx), (drew_trans G w).trans (alloc_trans hid.wi _ _ _ (fun o ho _ => by rw [frozen_alloc_new]; simp; omega)), ?_⟩
  rw [List.append_nil]
  have hsp : Sp (allocG G w.drew.heap.size vs.length (rowT (a.length * 1))) (.res 0) (.sl 1 a.length (byteEl a) true) (.slice (some (mkA w.heap.size 0)) a.length cap) := hN.sp
  exact ⟨hN.inv, .bs _ _ _ _ (hN.vr.pf rfl []), SpV_of_Sp (Sp_bs_sl.2 hsp) (by simp)⟩
/-- 'copy' into a block's slice -/
def cpy (m : Nat) (el : Nat → AV) : List AV := ((List.range m).map el).flatMap AV.cells
theorem cpy_at {m sz : Nat} {el : Nat → AV} (h : ∀ i, i < m → (el i).cells.length = sz) : (cpy m el).length = m * sz ∧ ∀ i j, i < m → j < sz → (cpy m el)[i * sz + j]? = (el i).cells[j]? := by
  induction m generalizing el with
  | zero => exact ⟨by simp [cpy], fun i j hi => absurd hi (Nat.not_lt_zero _)⟩
  | succ m ih =>
    have e : cpy (m + 1) el = (el 0).cells ++ cpy m (fun i => el (i + 1)) := by
      simp [cpy, List.range_succ_eq_map, List.flatMap_map, List.map_map, Function.comp_def]
    have h0 := h 0 (by omega)
    obtain ⟨k1, k2⟩ := ih (el := fun i => el (i + 1)) (fun i hi => h (i + 1) (by omega))
    rw [e]
    refine ⟨by rw [List.length_append, k1, h0, Nat.succ_mul]; omega, fun i j hi hj => ?_⟩
    cases i with
    | zero => rw [Nat.zero_mul, Nat.zero_add, List.getElem?_append_left (by omega)]
    | succ i =>
      rw [List.getElem?_append_right (by rw [h0, Nat.succ_mul]; omega), h0, show (i + 1) * sz + j - sz = i * sz + j by rw [Nat.succ_mul]; omega]
      exact k2 i j (by omega) hj
theorem run_copy {dT sT ty e : TypeId} {inf : TypeInfo} {b off dLen dCap m k : Nat} {x : Value} {news : List Value} (hu : P.underlying dT = some (.slice e)) (hi : P.info? e = some inf) (hm : (Builtin.lenOf x).run P w = .ok m w) (hk : Nat.min m dLen = k)
    (hf : (Builtin.firstCells inf.size k x).run P w = .ok news.toArray w) (hw : WI G w) (hwr : Wr G w b off news) :
    (Builtin.copy_ #[dT, sT] ty #[.slice (some (mkA b off)) dLen dCap, x]).run P w = .ok (.int .i64 k) (w.setCells b off news) := by
  have hst := hwr.runs (P := P) hw
  simp only [Builtin.copy_, List.getElem?_toArray, List.getElem?_cons_zero, List.getElem?_cons_succ, Sem.run_bind, run_und hu, Result.andThen_ok, hm, hk, sizeOf, run_ti hi, Sem.run_pure, hf, hst, goInt]
/-- the source's first elements -/
structure SrcK (P : Program) (G : Gh) (w : World) (sz m k : Nat) (el : Nat → AV) (x : Value) (news : List Value) : Prop where
  len : (Builtin.lenOf x).run P w = .ok m w
  first : (Builtin.firstCells sz k x).run P w = .ok news.toArray w
  size : news.length = k * sz
  one : ∀ v, v ∈ news → v.oneCell' = true
  elsz : ∀ i, i < k → (el i).cells.length = sz
  val : ∀ (i j : Nat) (c : AV) (v : Value), i < k → (el i).cells[j]? = some c → news[i * sz + j]? = some v → VR G w [] c v
theorem srcK_sl {sz m k : Nat} {el : Nat → AV} {o : Bool} {x : Value} (hw : WI G w) (h : VR G w ρ (.sl sz m el o) x) (hk : k ≤ m) : ∃ news, SrcK P G w sz m k el x news := by
  obtain ⟨base, cap, vs, rfl, e1, e2, e3, e4, e5⟩ := h.sl_inv
  have hkm : k * sz ≤ m * sz := Nat.mul_le_mul_right _ hk
  cases base with
  | none =>
    have : m = 0 := by have := e2 rfl; omega
    subst this
    have : k = 0 := by omega
    subst this
    exact ⟨[], rfl, rfl, by simp, by simp, fun i hi => absurd hi (Nat.not_lt_zero _), fun i j c v hi => absurd hi (Nat.not_lt_zero _)⟩
  | some p =>
    obtain ⟨b, off⟩ := p
    refine ⟨(List.range (k * sz)).map vs, rfl, ?_, by simp, fun v hv => ?_, fun i hi => e3 i (by omega), fun i j c v h1 h2 h3 => ?_⟩
    · have := run_loadCells (P := P) w (mkA b off) (k * sz) vs (fun q hq => by rw [mkA_add]; exact (e4 b off rfl q (by omega)).2)
      simpa [Builtin.firstCells] using this
    · obtain ⟨q, hq, rfl⟩ := List.mem_map.1 hv
      have := e4 b off rfl q (by have := List.mem_range.1 hq; omega)
      exact hw.one _ _ _ (.inl this.1) this.2
    · have hj : j < sz := by rw [← e3 i (by omega)]; exact (List.getElem?_eq_some_iff.1 h2).1
      have hq : i * sz + j < k * sz := by
        have : (i + 1) * sz ≤ k * sz := Nat.mul_le_mul_right _ h1
        rw [Nat.succ_mul] at this; omega
      simp [hq] at h3
      subst h3
      exact e5 i j c (by omega) h2
theorem srcK_str {s : List UInt8} {x : Value} {k : Nat} (h : VR G w ρ (.str s) x) (hk : k ≤ s.length) : ∃ news, SrcK P G w 1 s.length k (byteEl s) x news := by
  obtain rfl := h.str_inv
  have hs : (ByteArray.mk s.toArray).size = s.length := by show s.toArray.size = _; simp
  have hx : ((ByteArray.mk s.toArray).extract 0 k).data = (s.take k).toArray := by
    simp [ByteArray.data_extract]
  refine ⟨(s.take k).map fun b => .int .u8 b.toNat, by simp [Builtin.lenOf, hs], ?_, by simp; omega, fun v hv => by obtain ⟨b, _, rfl⟩ := List.mem_map.1 hv; rfl, fun i _ => rfl, fun i j c v h1 h2 h3 => ?_⟩
  · simp only [Builtin.firstCells, hx, Sem.run_pure]; simp
  · have hj : j = 0 := by have := (List.getElem?_eq_some_iff.1 h2).1; simpa [byteEl, AV.cells] using this
    subst hj
    simp [byteEl, AV.cells] at h2
    subst h2
    simp [h1, show i < s.length by omega] at h3
    subst h3
    simp only [List.getD_eq_getElem?_getD, List.getElem?_eq_getElem (show i < s.length by omega), Option.getD_some]
    exact .int ..
def srcE (x : AV) : Option (Nat × Nat × (Nat → AV)) :=
  match x with
  | .bs s _ => some (1, s.length, byteEl s)
  | .str s => some (1, s.length, byteEl s)
  | .sl sz m el _ => some (sz, m, el)
  | _ => none
theorem srcK_E {x : AV} {sz m k : Nat} {el : Nat → AV} {vx : Value} (hs : srcE x = some (sz, m, el)) (hw : WI G w) (h : VR G w ρ x vx) (hk : k ≤ m) : ∃ news, SrcK P G w sz m k el vx news := by
  unfold srcE at hs
  split at hs <;> simp only [Option.some.injEq, Prod.mk.injEq, reduceCtorEq] at hs <;> obtain ⟨rfl, rfl, rfl⟩ := hs
  · exact srcK_sl hw h.bs_inv hk
  · exact srcK_str h hk
  · exact srcK_sl hw h hk
theorem OpSem.copy {o : Oper} {dT sT e by_ sz id off m cp k sm : Nat} {d x : Operand} {sx : AV} {el : Nat → AV} {blk : List AV} (ho : o.op = .call { callee := .builtin .copy, args := #[d, x], argTypes := #[dT, sT] })
    (ht : slT P dT = some (e, sz, by_)) (hD : opd P dT fr d = .hs id off m cp) (hX : opd P sT fr x = sx) (hS : srcE sx = some (sz, sm, el)) (hk : Nat.min sm m = k) (hB : H[id]? = some blk) (hl : off + k * sz ≤ blk.length) (hc : ∀ i, i < k → (el i).cells.all isCell = true) :
    OpSem P o fr H (.int .i64 k) fr (H.set id (putCells blk off ((cpy k el).map un1))) := by
  intro b a w G ρ n ops i rest k' cs hoi hw hi
  obtain ⟨hu, inf, zs, h3, h4, rfl, rfl⟩ := slT_some ht
  have hd := VR.opd (P := P) (t := dT) hi.fr d
  rw [hD] at hd
  obtain ⟨b', hr, hde⟩ := hd.hs_inv
  have hx := VR.opd (P := P) (t := sT) hi.fr x
  rw [hX] at hx
  have hkm : k ≤ sm := by rw [← hk]; exact Nat.min_le_left ..
  obtain ⟨news, hs⟩ := srcK_E (P := P) hS hi.wi hx hkm
  obtain ⟨c1, c2⟩ := cpy_at hs.elsz
  have hvr : VRs G w ρ (cpy k el) news := ⟨by rw [hs.size, c1], fun q c v h1 h2 => by
    have hq := (List.getElem?_eq_some_iff.1 h1).1
    rw [c1] at hq
    have hz : 0 < inf.size := by
      rcases Nat.eq_zero_or_pos inf.size with h0 | h0
      · rw [h0] at hq; simp at hq
      · exact h0
    have hi1 : q / inf.size < k := by rw [Nat.div_lt_iff_lt_mul hz]; exact hq
    have hj := Nat.mod_lt q hz
    have hqe : q / inf.size * inf.size + q % inf.size = q := by rw [Nat.mul_comm]; exact Nat.div_add_mod ..
    have := c2 _ _ hi1 hj
    rw [hqe, h1] at this
    exact (hs.val _ _ c v hi1 this.symm (by rw [hqe]; exact h2)).of_nil⟩
  have hcell : ((cpy k el).map un1).all isCell = true := by
    rw [List.all_eq_true]
    intro y hy
    obtain ⟨z, hz, rfl⟩ := List.mem_map.1 hy
    obtain ⟨x, hx, hz⟩ := List.mem_flatMap.1 hz
    obtain ⟨i, hi, rfl⟩ := List.mem_map.1 hx
    have := (List.all_eq_true.1 (hc i (by simpa using hi))) z hz
    cases z <;> simp_all [Am.un1, isCell]
  obtain ⟨hwr, hinv⟩ := store_inv (off := off) hi hr hB hvr.un1 hcell (fun y hy G t v => by obtain ⟨z, hz, rfl⟩ := List.mem_map.1 hy; exact Sp_un1 ..) (by simpa [c1] using hl)
  have hrun := run_copy (P := P) (ty := o.type) (sT := sT) (dCap := cp) hu h3 hs.len hk hs.first hi.wi hwr
  have hEx : (execOp a.eval o).run P w = .ok (.value (.int .i64 k)) (w.setCells b' off news) := by
    simp only [execOp, ho, resolve, invoke, builtin]
    have : (#[d, x].map a.eval) = #[.slice (some (mkA b' off)) m cp, a.eval x] := by simp [hde]
    rw [this]
    simp only [Sem.run_bind, Sem.run_pure, Result.andThen_ok, hrun]
  exact ⟨_, _, reG (clrT id off ((cpy k el).map un1).length) G, [], .one (step_value hoi hw hEx), hwr.trans.trans ((clrT_re ..).trans _ _), by
    rw [List.append_nil]
    exact ⟨hinv, .int .., by simp [SpV, Sp]⟩⟩
end Go.Am
