/- The abstract machine: calls. -/
import Derived.Test.YtnohmijdpmelpaaGreatAm19
set_option linter.unusedSectionVars false
set_option linter.unusedVariables false
set_option linter.unusedSimpArgs false
namespace Go.Am
open Go
variable [Tab]
variable {P : Program} {G G' : Gh} {w w' : World} {ρ : List Nat} {n : Nat} {fr : Fr} {H : Heap} {tmps : Array Value}

def pfA : AV → Bool
  | .agg cs => cs.all pf
  | .tup _ => false
  | x => pf x
def pfR : AV → Bool
  | .tup vs => vs.all pfA
  | x => pfA x
theorem VR.pfA {x : AV} {v : Value} (h : VR G w ρ x v) (hp : pfA x = true) (ρ' : List Nat) : VR G w ρ' x v := by
  cases x with
  | agg cs =>
    obtain ⟨vs, rfl, hl, hv⟩ := h.agg_inv
    simp only [Am.pfA, List.all_eq_true] at hp
    exact .agg _ _ _ hl fun q c v h1 h2 => (hv q c v h1 h2).pf (hp c (List.mem_of_getElem? h1)) _
  | tup => simp [Am.pfA] at hp
  | _ => exact h.pf hp _
theorem VR.pfR {x : AV} {v : Value} (h : VR G w ρ x v) (hp : pfR x = true) (ρ' : List Nat) : VR G w ρ' x v := by
  cases x with
  | tup cs =>
    obtain ⟨vs, rfl, hl, hv⟩ := h.tup_inv
    simp only [Am.pfR, List.all_eq_true] at hp
    exact .tup _ _ _ hl fun q c v h1 h2 => (hv q c v h1 h2).pfA (hp c (List.mem_of_getElem? h1)) _
  | _ => exact h.pfA hp _
/-- an argument, in the callee's numbers -/
def lendE (L : List Nat) : AV → Option AV
  | .ptr id off => (L.idxOf? id).map fun j => .ptr j off
  | .hs id off m c => (L.idxOf? id).map fun j => .hs j off m c
  | x => bif pfA x then some x else none
def lendAll (L : List Nat) : List AV → Option (List AV)
  | [] => some []
  | x :: r => match lendE L (un1 x), lendAll L r with
    | some y, some l => some (y :: l)
    | _, _ => none
def inG (L : List Nat) : Own → Own
  | .cell id => match L.idxOf? id with | some j => .cell j | none => .ctx
  | .spare id q => match L.idxOf? id with | some j => .spare j q | none => .ctx
  | .frz => .frz
  | .free => .free
  | _ => .ctx
def lentT (L : List Nat) : Own → Bool
  | .cell id => (L.idxOf? id).isSome
  | .spare id _ => (L.idxOf? id).isSome
  | .free => true
  | _ => false
def outG (L : List Nat) : Own → Own
  | .cell j => match L[j]? with | some id => .cell id | none => .free
  | .spare j q => match L[j]? with | some id => .spare id q | none => .free
  | .frz => .frz
  | .res c => .res c
  | _ => .free
def backG (L : List Nat) (G G' : Gh) : Gh := fun b o => bif lentT L (G b o) then outG L (G' b o) else G b o
theorem idxOf_some {L : List Nat} {id j : Nat} (h : L.idxOf? id = some j) : L[j]? = some id := by
  rw [List.idxOf?, List.findIdx?_eq_some_iff_getElem] at h
  obtain ⟨h1, h2, _⟩ := h
  rw [List.getElem?_eq_getElem h1]
  simpa using h2
theorem idxOf_of {L : List Nat} (hL : L.Nodup) {id j : Nat} (h : L[j]? = some id) : L.idxOf? id = some j := by
  rw [List.idxOf?, List.findIdx?_eq_some_iff_getElem]
  obtain ⟨h1, h2⟩ := List.getElem?_eq_some_iff.1 h
  refine ⟨h1, by simp [h2], fun k hk => ?_⟩
  have hne : L[k] ≠ L[j] := by
    exact (List.pairwise_iff_getElem.1 hL) k j (by omega) h1 hk
  simp only [h2] at hne
  simpa using hne
theorem inG_frz {L t} : inG L t = .frz ↔ t = .frz := by
  cases t <;> simp [inG] <;> split <;> simp
theorem inG_keep {L t} (h : lentT L t = false) : inG L t = .frz ∨ inG L t = .ctx := by
  cases t with
  | cell id =>
    simp only [lentT] at h
    simp only [inG]
    cases hx : L.idxOf? id with
    | none => exact .inr rfl
    | some j => rw [hx] at h; cases h
  | spare id q =>
    simp only [lentT] at h
    simp only [inG]
    cases hx : L.idxOf? id with
    | none => exact .inr rfl
    | some j => rw [hx] at h; cases h
  | _ => simp_all [inG, lentT]
theorem in_keeps (L : List Nat) (G : Gh) (w : World) : Keeps G w (fun b o => inG L (G b o)) w := fun b o e => ⟨by show inG L (G b o) = .frz; rw [e]; rfl, rfl⟩
theorem inG_mine {L t} (h : (inG L t).mine = true) : t.mine = true := by
  cases t <;> simp_all [inG, Own.mine]
theorem in_wi (L : List Nat) (h : WI G w) : WI (fun b o => inG L (G b o)) w :=
  ⟨fun b o e => h.own b o (inG_mine e), fun b o e => by simp only [h.old b o e]; rfl, fun b o v e => h.one b o v (e.imp inG_frz.1 inG_mine), fun b cs e => ⟨(h.tab b cs e).1, fun o => (h.tab b cs e).2 o |>.imp (fun e => by show inG L (G b o) = .frz; rw [e]; rfl) (fun e => by show inG L (G b o) = .ctx; rw [e]; rfl)⟩⟩
def winH (L : List Nat) (H : Heap) : Heap := L.map fun id => H.getD id []
theorem in_br {L : List Nat} (hL : L.Nodup) (h : BR G w ρ H) (hlt : ∀ id ∈ L, id < H.length) (hp : (winH L H).all (·.all pf) = true) :
    BR (fun b o => inG L (G b o)) w (L.map fun id => ρ.getD id 0) (winH L H) := by
  refine ⟨by simp [winH], fun j b blk q c h1 h2 h3 => ?_⟩
  unfold winH at h2
  rw [List.getElem?_map, Option.map_eq_some_iff] at h1 h2
  obtain ⟨id, hid, rfl⟩ := h1
  obtain ⟨id', hid', rfl⟩ := h2
  rw [hid] at hid'; simp at hid'; subst hid'
  have hl := hlt id (List.mem_of_getElem? hid)
  have hl2 : id < ρ.length := by rw [← h.len]; exact hl
  have e1 : ρ[id]? = some (ρ.getD id 0) := by simp [List.getD_eq_getElem?_getD, List.getElem?_eq_getElem hl2]
  have e2 : H[id]? = some (H.getD id []) := by simp [List.getD_eq_getElem?_getD, List.getElem?_eq_getElem hl]
  obtain ⟨k1, v, k2, k3, k4⟩ := h.cell id _ _ q c e1 e2 h3
  have hix := idxOf_of hL hid
  refine ⟨by simp only [k1, inG, hix], v, k2, ?_, k4.map fun b o e => by simp only [e, inG, hix]⟩
  have hpc : pf c = true := by
    simp only [List.all_eq_true] at hp
    exact hp _ (List.mem_map.2 ⟨id, List.mem_of_getElem? hid, rfl⟩) c (List.mem_of_getElem? h3)
  exact (k3.keep (in_keeps L G w)).pf hpc _
theorem lendE_vr {L : List Nat} {x y : AV} {v : Value} (h : lendE L x = some y) (hv : VR G w ρ x v) (hlt : ∀ id ∈ L, id < ρ.length) : VR (fun b o => inG L (G b o)) w (L.map fun id => ρ.getD id 0) y v := by
  have hk := hv.keep (in_keeps L G w)
  have find : ∀ {id j b}, L.idxOf? id = some j → ρ[id]? = some b → (L.map fun id => ρ.getD id 0)[j]? = some b := by
    intro id j b h1 h2
    have := idxOf_some h1
    rw [List.getElem?_map, this]
    simp [List.getD_eq_getElem?_getD, h2]
  cases x with
  | ptr id off =>
    simp only [lendE, Option.map_eq_some_iff] at h
    obtain ⟨j, hj, rfl⟩ := h
    obtain ⟨b, hb, rfl⟩ := hv.ptr_inv
    exact .ptr _ _ _ _ (find hj hb)
  | hs id off m c =>
    simp only [lendE, Option.map_eq_some_iff] at h
    obtain ⟨j, hj, rfl⟩ := h
    obtain ⟨b, hb, rfl⟩ := hv.hs_inv
    exact .hs _ _ _ _ _ _ (find hj hb)
  | _ =>
    simp only [lendE, cond_eq_ite] at h
    split at h
    · rename_i hp
      simp only [Option.some.injEq] at h
      subst h
      exact hk.pfA hp _
    · simp at h
theorem lendE_nr {L : List Nat} {x y : AV} (h : lendE L (un1 x) = some y) : nr y = true := by
  cases x <;> simp only [un1, lendE, Option.map_eq_some_iff, cond_eq_ite] at h <;> first
    | (obtain ⟨j, _, rfl⟩ := h; rfl)
    | (simp [Am.pfA] at h; done)
    | (split at h <;> simp only [Option.some.injEq, reduceCtorEq] at h; subst h; rfl)
theorem lendAll_at {L : List Nat} : ∀ {xs ys : List AV}, lendAll L xs = some ys → ys.length = xs.length ∧ ∀ (i : Nat) (x y : AV), xs[i]? = some x → ys[i]? = some y → lendE L (un1 x) = some y
  | [], ys, h => by simp [lendAll] at h; subst h; exact ⟨rfl, fun i x y h => by simp at h⟩
  | x :: r, ys, h => by
    unfold lendAll at h
    split at h
    · rename_i y l h1 h2
      simp only [Option.some.injEq] at h
      subst h
      obtain ⟨k1, k2⟩ := lendAll_at h2
      refine ⟨by simp [k1], fun i a b e1 e2 => ?_⟩
      cases i with
      | zero => simp at e1 e2; subst e1; subst e2; exact h1
      | succ i => exact k2 i a b (by simpa using e1) (by simpa using e2)
    · simp at h
/-- the caller's blocks behind the call -/
def backH (L : List Nat) (H Hc : Heap) : Heap := H.mapIdx fun id blk => match L.idxOf? id with | some j => Hc.getD j [] | none => blk
theorem step_call {ops : Array Oper} {o : Oper} {i : Nat} {rest : List Nat} {g : FuncId} {args : Array Value} {b : Frame} {a : Act} {k : List Item} {cs : List Frame} {R : Value → World → Prop} (ho : ops[i]? = some o) (hw : Region.wanted o (yielded ops a.tmps) = true)
    (hr : (execOp a.eval o).run P w = .ok (.enter g args) w) (h : Calls P g args w fun e w' => ∃ v, e = .returned v ∧ R v w') :
    ∃ v w', R v w' ∧ Steps P (lone (b.at a (.inRegion ops (i :: rest) :: k)) cs w) (lone (b.at (a.put o.dst v) (.inRegion ops rest :: k)) cs w') := by
  have hg := stepG_op (P := P) (b := b) (k := k) (cs := cs) (w := w) (rest := rest) ho hw
  have hfin : ∀ v, (b.at a (.inRegion ops (i :: rest) :: k)).finish v = b.at (a.put o.dst v) (.inRegion ops rest :: k) := by
    intro v; rw [Frame.finish_at, ho]; rfl
  obtain ⟨e, w'', fr, ⟨v, rfl, hR⟩, hsteps, _, hleave⟩ := h (b.at a (.inRegion ops (i :: rest) :: k) :: cs)
  have henter : step P (lone (b.at a (.inRegion ops (i :: rest) :: k)) cs w) = .next (lone (Frame.enter P g args .normal) (b.at a (.inRegion ops (i :: rest) :: k) :: cs) w) :=
    step_lone_go (by rw [hg]; simp [stepG.apply, hr, Frame.at])
  refine ⟨v, w'', hR, .head henter (hsteps.trans (.one ?_))⟩
  rw [← hfin]; exact step_leave_returned hleave
theorem backH_at {L : List Nat} {H Hc : Heap} {id : Nat} : (backH L H Hc)[id]? = (H[id]?).map fun blk => match L.idxOf? id with | some j => Hc.getD j [] | none => blk := by
  simp [backH, List.getElem?_mapIdx]
/-- what a call does, seen by the caller -/
theorem call_back {L : List Nat} (hL : L.Nodup) (hlt : ∀ id ∈ L, id < H.length) {res : AV} {Hc' : Heap} {v : Value} {ρ' : List Nat} (hi : Inv G w ρ n fr H tmps)
    (hp : Post L.length (fun b o => inG L (G b o)) w (L.map fun id => ρ.getD id 0) res Hc' v w' G' ρ') (hlen : Hc'.length = L.length) (hpf : Hc'.all (·.all pf) = true) (hres : pfR res = true) :
    Trans G w (backG L G G') w' ∧ InvV (backG L G G') w' ρ n fr (backH L H Hc') tmps res v := by
  obtain ⟨ht, hw', hρ, hbr, hvr, hsp⟩ := hp
  have hρl : ρ'.length = L.length := by rw [← hbr.len, hlen]
  have hρ : ρ' = L.map fun id => ρ.getD id 0 := by
    rw [List.take_of_length_le (by omega), List.take_of_length_le (by simp)] at hρ
    exact hρ
  subst hρ
  -- what isn't lent stays
  have stay : ∀ b o, lentT L (G b o) = false → backG L G G' b o = G b o ∧ w'.cell? (mkA b o) = w.cell? (mkA b o) ∧ w'.frozen? (mkA b o) = w.frozen? (mkA b o) := by
    intro b o h
    refine ⟨by unfold backG; rw [h]; rfl, ht.cell b o (inG_keep h)⟩
  have hk : Keeps G w (backG L G G') w' := fun b o e => by
    obtain ⟨h1, h2, _⟩ := stay b o (by rw [e]; rfl)
    exact ⟨h1.trans e, h2⟩
  have hk2 : Keeps G' w' (backG L G G') w' := fun b o e => by
    refine ⟨?_, rfl⟩
    unfold backG
    cases hl : lentT L (G b o) with
    | true => simp [outG, e]
    | false =>
      rcases inG_keep hl with h | h
      · rw [inG_frz.1 h]; rfl
      · have := ht.ctx b o h
        rw [e] at this; cases this
  have lent : ∀ b o, lentT L (G b o) = true → backG L G G' b o = outG L (G' b o) := fun b o h => by unfold backG; rw [h]; rfl
  -- an owner of the callee's is at a lent place
  have isLent : ∀ b o, (G' b o).mine = true → lentT L (G b o) = true := by
    intro b o h
    cases hl : lentT L (G b o) with
    | true => rfl
    | false =>
      rcases inG_keep hl with h1 | h1
      · rw [ht.frz b o h1] at h; cases h
      · rw [ht.ctx b o h1] at h; cases h
  have hT : Trans G w (backG L G G') w' := by
    refine ⟨ht.os, ht.tape, ht.output, ht.size, fun b o e => (hk b o e).1, fun b o e => ?_, fun b o e => ?_, fun b hb e => ht.blk b hb fun o => ?_, fun b o e1 e2 => ?_⟩
    · exact (stay b o (by rw [e]; rfl)).1.trans e
    · exact (stay b o (by rcases e with e | e <;> rw [e] <;> rfl)).2
    · rcases e o with e | e
      · exact .inl (by simp only [e]; rfl)
      · exact .inr (by simp only [e]; rfl)
    · cases hl : lentT L (G b o) with
      | false => rw [(stay b o hl).1] at e2; exact absurd e2 e1
      | true =>
        rw [lent b o hl] at e2
        refine ht.fz b o (fun e => e1 (inG_frz.1 e)) ?_
        generalize G' b o = t at e2
        cases t <;> simp_all [outG]
        all_goals (split at e2 <;> simp at e2)
  refine ⟨hT, ⟨hi.size, fun i => ⟨(hi.fr i).1.keep hk, (hi.fr i).2.map fun c b o e => ?_⟩, ⟨by simp [backH, hi.br.len], fun id b blk j c h1 h2 h3 => ?_⟩, ⟨fun b o e => ?_, fun b o e => ?_, fun b o v e1 e2 => ?_, hi.wi.tab.trans hT⟩⟩, (hvr.keep hk2).pfR hres _, hsp.map fun c b o e => ?_⟩
  · exact (stay b o (by rw [e]; rfl)).1.trans e
  · rw [backH_at, Option.map_eq_some_iff] at h2
    obtain ⟨blk0, h2, hb⟩ := h2
    cases hx : L.idxOf? id with
    | none =>
      rw [hx] at hb
      simp only at hb
      subst hb
      obtain ⟨k1, v, k2, k3, k4⟩ := hi.br.cell id b blk0 j c h1 h2 h3
      obtain ⟨s1, s2, _⟩ := stay b j (by rw [k1]; simp [lentT, hx])
      exact ⟨s1.trans k1, v, s2.trans k2, k3.keep hk, k4.map fun b o e => (stay b o (by rw [e]; simp [lentT, hx])).1.trans e⟩
    | some q =>
      rw [hx] at hb
      simp only at hb
      subst hb
      have hq := idxOf_some hx
      have hql : q < L.length := (List.getElem?_eq_some_iff.1 hq).1
      have hqh : q < Hc'.length := by omega
      have e1 : (L.map fun id => ρ.getD id 0)[q]? = some b := by rw [List.getElem?_map, hq]; simp [List.getD_eq_getElem?_getD, h1]
      have e2 : Hc'[q]? = some (Hc'.getD q []) := by simp [List.getD_eq_getElem?_getD, List.getElem?_eq_getElem hqh]
      obtain ⟨k1, v, k2, k3, k4⟩ := hbr.cell q b _ j c e1 e2 h3
      have hl := isLent b j (by rw [k1]; rfl)
      refine ⟨by rw [lent b j hl, k1]; simp [outG, hq], v, k2, ?_, k4.map fun b o e => by rw [lent b o (isLent b o (by rw [e]; rfl)), e]; simp [outG, hq]⟩
      have hpc : pf c = true := by
        simp only [List.all_eq_true] at hpf
        exact hpf _ (List.mem_of_getElem? e2) c (List.mem_of_getElem? h3)
      exact (k3.keep hk2).pf hpc _
  · cases hl : lentT L (G b o) with
    | false =>
      obtain ⟨s1, s2, s3⟩ := stay b o hl
      rw [s1] at e
      obtain ⟨k1, k2⟩ := hi.wi.own b o e
      exact ⟨by rw [s2]; exact k1, by rw [s3]; exact k2⟩
    | true =>
      rw [lent b o hl] at e
      refine hw'.own b o ?_
      generalize G' b o = t at e
      cases t <;> simp_all [outG, Own.mine]
  · have h1 : G b o = .free := hi.wi.old b o (Nat.le_trans ht.size e)
    have h2 : G' b o = .free := hw'.old b o e
    rw [lent b o (by rw [h1]; rfl), h2]; rfl
  · cases hl : lentT L (G b o) with
    | false =>
      obtain ⟨s1, s2, s3⟩ := stay b o hl
      rw [s1] at e1
      rw [s2] at e2
      exact hi.wi.one b o v e1 e2
    | true =>
      rw [lent b o hl] at e1
      refine hw'.one b o v ?_ e2
      generalize G' b o = t at e1
      cases t <;> simp_all [outG, Own.mine]
  · rw [lent b o (isLent b o (by rw [e]; rfl)), e]; rfl
/-- is it a function with a body? -/
def hasBody (P : Program) (g : FuncId) : Bool := match P.funcs[g]? with
  | some fn => fn.body.isSome && !(fn.name == "runtime.NumGoroutine")
  | none => false
theorem run_callFunc {g : FuncId} (h : hasBody P g = true) (args : Array Value) : (callFunc g args).run P w = .ok (.enter g args) w := by
  unfold hasBody at h
  split at h
  · rename_i fn hf
    simp only [Bool.and_eq_true, Bool.not_eq_true'] at h
    have h2 : ¬ fn.body = none := by intro e; rw [e] at h; simp at h
    have h3 : ¬ fn.name = "runtime.NumGoroutine" := by simpa using h.2
    simp [callFunc, hf, h2, h3]
  · simp at h
theorem OpSem.call {o : Oper} {c : Call} {f : Operand} {g : FuncId} {cap args xs : List AV} {L : List Nat} {res : AV} {Hc' : Heap} (ho : o.op = .call c) (hc : c.callee = .value f) (hf : opd P 0 fr f = .fn (.func g) cap) (hg : hasBody P g = true)
    (hx : (c.args.toList.zipIdx.map fun p => opd P (c.argTypes.getD p.2 0) fr p.1) ++ cap = xs) (ha : lendAll L xs = some args) (hL : L.Nodup) (hlt : L.all (fun id => Nat.blt id H.length) = true) (hp : (winH L H).all (·.all pf) = true)
    (hfn : FnOK P g args (winH L H) res Hc') (hlen : Nat.beq Hc'.length L.length = true) (hpf : Hc'.all (·.all pf) = true) (hres : pfR res = true) : OpSem P o fr H res fr (backH L H Hc') := by
  have hlen := Nat.eq_of_beq_eq_true hlen
  have hlt : ∀ id ∈ L, id < H.length := fun id hid => Nat.le_of_ble_eq_true ((List.all_eq_true.1 hlt) id hid)
  intro b a w G ρ n ops i rest k cs hoi hw hi
  have hvf := VR.opd (P := P) (t := 0) hi.fr f
  rw [hf] at hvf
  obtain ⟨cv, hcv, hcl, hcr⟩ := hvf.fn_inv
  let vs : List Value := c.args.toList.map a.eval ++ cv
  have hxs : ∀ (q : Nat) (x : AV) (v : Value), xs[q]? = some x → vs[q]? = some v → VR G w ρ x v := by
    intro q x v h1 h2
    rw [← hx] at h1
    rcases Nat.lt_or_ge q c.args.toList.length with hq | hq
    · rw [List.getElem?_append_left (by simpa using hq)] at h1
      simp only [vs] at h2
      rw [List.getElem?_append_left (by simpa using hq)] at h2
      rw [List.getElem?_map, Option.map_eq_some_iff] at h1 h2
      obtain ⟨p, hp1, rfl⟩ := h1
      obtain ⟨y, hy, rfl⟩ := h2
      rw [List.getElem?_zipIdx, hy] at hp1
      simp at hp1
      subst hp1
      exact VR.opd hi.fr _
    · rw [List.getElem?_append_right (by simpa using hq)] at h1
      simp only [vs] at h2
      rw [List.getElem?_append_right (by simpa using hq)] at h2
      simp only [List.length_map, List.length_zipIdx] at h1 h2
      exact hcr _ x v h1 h2
  have hxl : vs.length = xs.length := by rw [← hx]; simp [vs, hcl]
  obtain ⟨k1, k2⟩ := lendAll_at ha
  have hlt2 : ∀ id ∈ L, id < ρ.length := fun id h => by rw [← hi.br.len]; exact hlt id h
  have hcalls := hfn w (fun b o => inG L (G b o)) (L.map fun id => ρ.getD id 0) vs (by omega) (fun q y v h1 h2 => by
    have hq : q < xs.length := by have := (List.getElem?_eq_some_iff.1 h1).1; omega
    have hy := k2 q xs[q] y (List.getElem?_eq_getElem hq) h1
    have hv := (hxs q xs[q] v (List.getElem?_eq_getElem hq) h2).un1
    exact ⟨lendE_vr hy hv hlt2, SpV_nr (lendE_nr hy)⟩) (in_br hL hi.br hlt hp) (in_wi L hi.wi)
  have hEx : (execOp a.eval o).run P w = .ok (.enter g vs.toArray) w := by
    have hcap : (c.args.map a.eval) ++ cv.toArray = vs.toArray := by apply Array.ext'; simp [vs]
    simp only [execOp, ho, resolve, hc, hcv, Deferred.ofValue, Sem.run_bind, Sem.run_pure, Result.andThen_ok, invoke, Array.empty_append, hcap]
    exact run_callFunc hg _
  obtain ⟨v, w', ⟨G', ρ', hpost⟩, hst⟩ := step_call (R := fun v w' => ∃ G' ρ', Post L.length (fun b o => inG L (G b o)) w (L.map fun id => ρ.getD id 0) res Hc' v w' G' ρ') (b := b) (k := k) (cs := cs) (rest := rest) hoi hw hEx (hcalls.mono fun e w' ⟨v, G', ρ', h1, h2⟩ => ⟨v, h1, G', ρ', by simpa [winH] using h2⟩)
  obtain ⟨r1, r2⟩ := call_back hL hlt hi hpost hlen hpf hres
  exact ⟨v, w', backG L G G', [], hst, r1, by rw [List.append_nil]; exact r2⟩
end Go.Am
