/- The abstract machine: one operation and a whole region, reckoned ('evN', 'evR'), and that they are right. -/
import Derived.Test.YtnohmijdpmelpaaGreatAm21
set_option linter.unusedSectionVars false
set_option linter.unusedVariables false
set_option linter.unusedSimpArgs false
namespace Go.Am
open Go
variable [Tab]
variable {P : Program} {n k0 : Nat} {fr fr1 : Fr} {H H1 : Heap} {f : FuncId} {S : List Item} {res : AV} {H' : Heap} {ops : Array Oper}

/-- looked at, then handed on -/
def AV.force {β : Type} (a : AV) (k : AV → β) : β := match a with
  | .int i x => k (.int i x)
  | .bool x => k (.bool x)
  | .str x => k (.str x)
  | .bs x o => k (.bs x o)
  | .sl a b c d => k (.sl a b c d)
  | .hs a b c d => k (.hs a b c d)
  | .ptr a b => k (.ptr a b)
  | .nilp => k .nilp
  | .cptr x => k (.cptr x)
  | .fn x y => k (.fn x y)
  | .nilfn => k .nilfn
  | .iface a b => k (.iface a b)
  | .nili => k .nili
  | .agg x => k (.agg x)
  | .tup x => k (.tup x)
  | .bad => k .bad
theorem AV.force_eq {β : Type} (a : AV) (k : AV → β) : a.force k = k a := by cases a <;> rfl
def litLen {α : Type} {β : Type} (l : List α) (k : Nat → β) : β := match l with
  | [] => k 0
  | [_] => k 1
  | [_, _] => k 2
  | [_, _, _] => k 3
  | [_, _, _, _] => k 4
  | [_, _, _, _, _] => k 5
  | [_, _, _, _, _, _] => k 6
  | [_, _, _, _, _, _, _] => k 7
  | [_, _, _, _, _, _, _, _] => k 8
  | l => k l.length
theorem litLen_eq {α : Type} {β : Type} (l : List α) (k : Nat → β) : litLen l k = k l.length := by
  unfold litLen; split <;> rfl
def setL {α β : Type} : List α → Nat → α → (List α → β) → β
  | [], _, _, k => k []
  | _ :: r, 0, x, k => k (x :: r)
  | a :: r, n + 1, x, k => setL r n x fun r' => k (a :: r')
theorem setL_eq {α β : Type} : ∀ (l : List α) (n : Nat) (x : α) (k : List α → β), setL l n x k = k (l.set n x)
  | [], _, _, _ => rfl
  | _ :: _, 0, _, _ => rfl
  | a :: r, n + 1, x, k => by unfold setL; rw [setL_eq r n x]; rfl
def snocL {α β : Type} : List α → α → (List α → β) → β
  | [], x, k => k [x]
  | a :: r, x, k => snocL r x fun r' => k (a :: r')
theorem snocL_eq {α β : Type} : ∀ (l : List α) (x : α) (k : List α → β), snocL l x k = k (l ++ [x])
  | [], _, _ => rfl
  | a :: r, x, k => by unfold snocL; rw [snocL_eq r x]; rfl
def cellsF {β : Type} : List AV → (List AV → β) → β
  | [], k => k []
  | a :: r, k => a.force fun a => cellsF r fun r => k (a :: r)
theorem cellsF_eq {β : Type} : ∀ (l : List AV) (k : List AV → β), cellsF l k = k l
  | [], _ => rfl
  | a :: r, k => by unfold cellsF; rw [AV.force_eq, cellsF_eq r]
/-- the condition, the value, the slot whose room is taken, the heap -/
abbrev R4 := Option (Prop × AV × Option (Nat × AV) × Heap)
/-- a call: the blocks that are lent, the result, the blocks behind it -/
structure CallK where
  L : List Nat := []
  res : AV
  H' : Heap := []
def upd (fr : Fr) (u : Option (Nat × AV)) : Fr := match u with
  | some (t, x) => fr.set t x
  | none => fr
def pureM (P : Program) (fr : Fr) (H : Heap) (o : Oper) : R4 := match evP P fr H o with
  | some (c, v) => some (c, v, none, H)
  | none => none
/-- a slot's value, its room with it -/
def takeM (P : Program) (fr : Fr) (H : Heap) (o : Oper) (t : Nat) : R4 := match fr t with
  | .bs s true => some (True, .bs s true, some (t, (.bs s false)), H)
  | .sl sz m el true => some (True, .sl sz m el true, some (t, (.sl sz m el false)), H)
  | .tup vs => some (True, .tup vs, some (t, (.tup (vs.map un1))), H)
  | _ => pureM P fr H o
def takeXM (P : Program) (fr : Fr) (H : Heap) (o : Oper) (t j : Nat) : R4 := match fr t with
  | .tup vs => match vs[j]? with
    | some (.bs s true) => some (True, .bs s true, some (t, (.tup (vs.set j (.bs s false)))), H)
    | some (.sl sz m el true) => some (True, .sl sz m el true, some (t, (.tup (vs.set j (.sl sz m el false)))), H)
    | _ => pureM P fr H o
  | _ => none
def appendM (P : Program) (fr : Fr) (H : Heap) (t : Nat) (x : Operand) (tt t2 : TypeId) : R4 :=
  match slT P tt, isSS P t2 with
  | some (_, sz, by_), true => match fr t, opd P t2 fr x with
    | .bs s true, .bs s2 _ => match sz with
      | 1 => bif Nat.ble by_ 65536 then some (s.length + s2.length ≤ 2147483648, .bs (s ++ s2) true, some (t, (.bs s false)), H) else none
      | _ => none
    | .bs s true, .str s2 => match sz with
      | 1 => bif Nat.ble by_ 65536 then some (s.length + s2.length ≤ 2147483648, .bs (s ++ s2) true, some (t, (.bs s false)), H) else none
      | _ => none
    | .bs s true, .hs id off m _ => match sz, H[id]? with
      | 1, some blk => match bytesE ((blk.drop off).take m) with
        | some ns => bif Nat.ble by_ 65536 && Nat.beq ns.length m then some ((∀ x, x ∈ ns → 0 ≤ x ∧ x < 256) ∧ s.length + m ≤ 2147483648, .bs (s ++ ns.map toB) true, some (t, (.bs s false)), H) else none
        | none => none
      | _, _ => none
    | .sl z len el true, .sl z2 m el2 _ => bif Nat.beq z sz && Nat.beq z2 sz && Nat.ble by_ 65536 then
        some (len + m ≤ 2147483648, .sl z (len + m) (apEl len el el2) true, some (t, (.sl z len el false)), H) else none
    | _, _ => none
  | _, _ => none
/-- a row as a block: a mark at the operation ('L' not empty) asks for it -/
def hMark (ck : Option CallK) : Bool := match ck with
  | some k => match k.L with
    | [] => false
    | _ => true
  | none => false
def appendHM (P : Program) (fr : Fr) (H : Heap) (t : Nat) (x : Operand) (tt t2 : TypeId) : R4 :=
  match slT P tt, isSS P t2 with
  | some (_, sz, _), true => match fr t, srcS (opd P t2 fr x) with
    | .hs id off len cap, some (z, m, el) => bif Nat.beq z sz then match H[id]? with
      | some blk => setL H id (putCells blk (off + len * sz) ((cpy m el).map un1)) fun H1 => some (len + m ≤ cap ∧ off + cap * sz ≤ blk.length ∧ ∀ i, i < m → (el i).cells.all isCell = true, .hs id off (len + m) cap, none, H1)
      | none => none else none
    | _, _ => none
  | _, _ => none
def copyM (P : Program) (fr : Fr) (H : Heap) (d x : Operand) (dT sT : TypeId) : R4 :=
  match slT P dT, opd P dT fr d, srcE (opd P sT fr x) with
  | some (_, sz, _), .hs id off m _, some (z, sm, el) => bif Nat.beq z sz then match H[id]? with
    | some blk => setL H id (putCells blk off ((cpy (Nat.min sm m) el).map un1)) fun H1 => some (off + Nat.min sm m * sz ≤ blk.length ∧ ∀ i, i < Nat.min sm m → (el i).cells.all isCell = true, .int .i64 (Nat.min sm m), none, H1)
    | none => none else none
  | _, _, _ => none
def litM (P : Program) (fr : Fr) (H : Heap) (t len : Nat) (parts : Array (Nat × Operand)) : R4 :=
  match litE P t len (partsE P 0 fr parts) with
  | some (e, ag, sz, cs) => match P.underlying e with
    | some (.int .u8) => match ag, sz, bytesE cs with
      | false, 1, some ns => bif Nat.beq ns.length len then some (∀ x, x ∈ ns → 0 ≤ x ∧ x < 256, .bs (ns.map toB) true, none, H) else none
      | _, _, _ => none
    | _ => some (True, .sl sz len (elOf ag sz cs) true, none, H)
  | none => none
def litHM (P : Program) (fr : Fr) (H : Heap) (t len : Nat) (parts : Array (Nat × Operand)) : R4 :=
  match litE P t len (partsE P 0 fr parts) with
  | some (_, _, _, cs) => litLen H fun hl => cellsF (cs.map un1) fun cs => snocL H cs fun H1 => some (True, .hs hl 0 len len, none, H1)
  | none => none
def makeM (P : Program) (fr : Fr) (H : Heap) (t : TypeId) (l c : Operand) : R4 :=
  match slT P t, opd P 3 fr c with
  | some (e, sz, by_), .int _ x => bif Nat.ble by_ 65536 then (match l with
    | .const (.int _ 0) => match P.underlying e, sz with
      | some (.int .u8), 1 => some (0 ≤ x ∧ x ≤ 4294967296, .bs [] true, none, H)
      | _, sz => some (0 ≤ x ∧ x ≤ 4294967296, .sl sz 0 (fun _ => .bad) true, none, H)
    | l => match opd P 3 fr l, zeroE P e with
      | .int _ y, some zs => litLen H fun hl => snocL H (rep x.toNat zs) fun H1 => some (0 ≤ y ∧ y ≤ x ∧ x ≤ 4294967296, .hs hl 0 y.toNat x.toNat, none, H1)
      | _, _ => none) else none
  | _, _ => none
def boxM (P : Program) (fr : Fr) (H : Heap) (t : TypeId) (x : Operand) : R4 :=
  (opd P t fr x).force fun a => bif notTB a && a.cells.all isCell then cellsF (a.cells.map un1) fun cs => litLen H fun hl => snocL H cs fun H1 => some (True, .ptr hl 0, none, H1) else none
def storeM (P : Program) (fr : Fr) (H : Heap) (t : TypeId) (A X : Operand) : R4 :=
  match opd P t fr A with
  | .ptr id off => (opd P t fr X).force fun x => match H[id]?, szT P t with
    | some blk, some z => bif notTB x && x.cells.all isCell && Nat.beq z x.cells.length then (match x.cells with
      | [c] => (un1 c).force fun c => setL H id (blk.set off c) fun H1 => some (off + 1 ≤ blk.length, .bad, none, H1)
      | cs => setL H id (putCells blk off (cs.map un1)) fun H1 => some (off + cs.length ≤ blk.length, .bad, none, H1)) else none
    | _, _ => none
  | _ => none
def convM (P : Program) (fr : Fr) (H : Heap) (o : Oper) (s d : TypeId) (x : Operand) : R4 :=
  match P.underlying d with
  | some (.slice e) => match P.underlying s, opd P s fr x, P.underlying e with
    | some .string, .str a, some (.int .u8) => some (True, .bs a true, none, H)
    | _, _, _ => none
  | _ => pureM P fr H o
def buildM (P : Program) (fr : Fr) (H : Heap) (t : TypeId) (parts : Array (Nat × Operand)) : R4 :=
  match buildE P t (partsE P 0 fr parts) with
  | some v => some (True, v, none, H)
  | none => none
def callM (P : Program) (fr : Fr) (H : Heap) (c : Call) (f : Operand) (k : CallK) : R4 :=
  match opd P 0 fr f with
  | .fn (.func g) cap => match lendAll k.L ((c.args.toList.zipIdx.map fun p => opd P (c.argTypes.getD p.2 0) fr p.1) ++ cap) with
    | some args => bif hasBody P g && pfR k.res then (match k.L with
      | [] => match k.H' with
        | [] => some (FnOK P g args [] k.res [], k.res, none, H)
        | _ => none
      | L => bif decide L.Nodup && L.all (fun id => Nat.blt id H.length) && Nat.beq k.H'.length L.length then
          some ((winH L H).all (·.all pf) = true ∧ k.H'.all (·.all pf) = true ∧ FnOK P g args (winH L H) k.res k.H', k.res, none, backH L H k.H') else none) else none
    | none => none
  | _ => none
/-- one operation: what must hold, its value, what it leaves -/
def evN (P : Program) (tk : Bool) (ck : Option CallK) (fr : Fr) (H : Heap) (o : Oper) : R4 :=
  match o.op with
  | .move (.const v) => some (True, ofVal P o.type v, none, H)
  | .assign (.const v) => some (True, ofVal P o.type v, none, H)
  | .move (.tmp t) => bif tk then takeM P fr H o t else pureM P fr H o
  | .assign (.tmp t) => bif tk then takeM P fr H o t else pureM P fr H o
  | .extract (.tmp t) j => bif tk then takeXM P fr H o t j else pureM P fr H o
  | .call c => match c.callee, c.args.toList, c.argTypes.toList with
    | .builtin .append, [.tmp t, x], [tt, t2] => bif hMark ck then appendHM P fr H t x tt t2 else appendM P fr H t x tt t2
    | .builtin .copy, [d, x], [dT, sT] => copyM P fr H d x dT sT
    | .builtin _, _, _ => pureM P fr H o
    | .value f, _, _ => match ck with
      | some k => callM P fr H c f k
      | none => none
    | _, _, _ => none
  | .buildSlice t len parts => bif hMark ck then litHM P fr H t len parts else litM P fr H t len parts
  | .makeSlice t l c => makeM P fr H t l c
  | .alloc t => match zeroE P t with
    | some cs => cellsF cs fun cs => litLen H fun hl => snocL H cs fun H1 => some (True, .ptr hl 0, none, H1)
    | none => none
  | .box t x => boxM P fr H t x
  | .store t A X => storeM P fr H t A X
  | .convert s d x => convM P fr H o s d x
  | .build t parts => buildM P fr H t parts
  | _ => pureM P fr H o
theorem pureM_sound {o : Oper} {c : Prop} {v : AV} {u : Option (Nat × AV)} (h : pureM P fr H o = some (c, v, u, H1)) (hc : c) : OpSem P o fr H v (upd fr u) H1 := by
  unfold pureM at h
  split at h
  · rename_i e
    simp only [Option.some.injEq, Prod.mk.injEq] at h
    obtain ⟨rfl, rfl, rfl, rfl⟩ := h
    exact OpSem.pure e hc
  · simp at h
theorem takeM_sound {o : Oper} {t : Nat} {c : Prop} {v : AV} {u : Option (Nat × AV)} (ho : o.op = .move (.tmp t) ∨ o.op = .assign (.tmp t)) (h : takeM P fr H o t = some (c, v, u, H1)) (hc : c) : OpSem P o fr H v (upd fr u) H1 := by
  have key := OpSem.take (P := P) (fr := fr) (H := H) ho
  unfold takeM at h
  split at h
  case h_4 => exact pureM_sound h hc
  all_goals
    rename_i e
    simp only [Option.some.injEq, Prod.mk.injEq] at h
    obtain ⟨_, rfl, rfl, rfl⟩ := h
    rw [e] at key
    exact key
theorem takeXM_sound {o : Oper} {t j : Nat} {c : Prop} {v : AV} {u : Option (Nat × AV)} (ho : o.op = .extract (.tmp t) j) (h : takeXM P fr H o t j = some (c, v, u, H1)) (hc : c) : OpSem P o fr H v (upd fr u) H1 := by
  unfold takeXM at h
  split at h
  · rename_i vs e
    split at h
    case h_3 => exact pureM_sound h hc
    all_goals
      rename_i e2
      simp only [Option.some.injEq, Prod.mk.injEq] at h
      obtain ⟨_, rfl, rfl, rfl⟩ := h
      exact OpSem.takeX ho e e2 (by simp)
  · simp at h
theorem toList_eq {α : Type} {a : Array α} {l : List α} (h : a.toList = l) : a = l.toArray := by rw [← h]
theorem by_le {a b : Nat} (h : Nat.ble b 65536 = true) (hc : a ≤ 2147483648) : a * b ≤ 140737488355328 :=
  Nat.mul_le_mul hc (Nat.le_of_ble_eq_true h)
theorem by_le2 {x : Int} {b : Nat} (h : Nat.ble b 65536 = true) (h0 : 0 ≤ x) (hc : x ≤ 4294967296) : x * b ≤ 281474976710656 := by
  have h := Nat.le_of_ble_eq_true h
  have : x * b ≤ 4294967296 * b := Int.mul_le_mul_of_nonneg_right hc (by omega)
  omega
theorem appendM_sound {o : Oper} {c' : Call} {t : Nat} {x : Operand} {tt t2 : TypeId} {c : Prop} {v : AV} {u : Option (Nat × AV)} (ho : o.op = .call c') (h1 : c'.callee = .builtin .append) (h2 : c'.args.toList = [.tmp t, x]) (h3 : c'.argTypes.toList = [tt, t2])
    (h : appendM P fr H t x tt t2 = some (c, v, u, H1)) (hc : c) : OpSem P o fr H v (upd fr u) H1 := by
  have ho' : o.op = .call { callee := .builtin .append, args := #[.tmp t, x], argTypes := #[tt, t2] } := by
    rw [ho]
    cases c'
    simp only at h1 h2 h3
    subst h1
    rw [toList_eq h2, toList_eq h3]
  unfold appendM at h
  split at h
  · rename_i e sz by_ hs h2
    split at h
    · rename_i e1 e2
      split at h
      · rw [Bool.cond_eq_ite] at h
        split at h
        · rename_i hby
          simp only [Option.some.injEq, Prod.mk.injEq] at h
          obtain ⟨rfl, rfl, rfl, rfl⟩ := h
          have key := OpSem.appendB (P := P) (fr := fr) (H := H) ho' hs h2 e1 (.inl ⟨_, e2⟩) (by_le hby hc) (Nat.le_trans hc (by decide))
          rw [e1] at key; exact key
        · simp at h
      · simp at h
    · rename_i e1 e2
      split at h
      · rw [Bool.cond_eq_ite] at h
        split at h
        · rename_i hby
          simp only [Option.some.injEq, Prod.mk.injEq] at h
          obtain ⟨rfl, rfl, rfl, rfl⟩ := h
          have key := OpSem.appendB (P := P) (fr := fr) (H := H) ho' hs h2 e1 (.inr e2) (by_le hby hc) (Nat.le_trans hc (by decide))
          rw [e1] at key; exact key
        · simp at h
      · simp at h
    · rename_i e1 e2
      split at h
      · rename_i e3
        split at h
        · rename_i e4
          rw [Bool.cond_eq_ite] at h
          split at h
          · rename_i hq
            rw [Bool.and_eq_true] at hq
            simp only [Option.some.injEq, Prod.mk.injEq] at h
            obtain ⟨rfl, rfl, rfl, rfl⟩ := h
            have key := OpSem.appendH (P := P) (fr := fr) (H := H) ho' hs h2 e1 e2 e3 e4 hq.2 hc.1 (by_le hq.1 hc.2) (Nat.le_trans hc.2 (by decide))
            rw [e1] at key; exact key
          · simp at h
        · simp at h
      · simp at h
    · rename_i e1 e2
      rw [Bool.cond_eq_ite] at h
      split at h
      · rename_i hz
        simp only [Bool.and_eq_true] at hz
        have hz1 := Nat.eq_of_beq_eq_true hz.1.1
        have hz2 := Nat.eq_of_beq_eq_true hz.1.2
        subst hz1; subst hz2
        simp only [Option.some.injEq, Prod.mk.injEq] at h
        obtain ⟨rfl, rfl, rfl, rfl⟩ := h
        have key := OpSem.append (P := P) (fr := fr) (H := H) ho' hs h2 e1 e2 (by_le hz.2 hc) (Nat.le_trans hc (by decide))
        rw [e1] at key; exact key
      · simp at h
    · simp at h
  · simp at h
theorem appendHM_sound {o : Oper} {c' : Call} {t : Nat} {x : Operand} {tt t2 : TypeId} {c : Prop} {v : AV} {u : Option (Nat × AV)} (ho : o.op = .call c') (h1 : c'.callee = .builtin .append) (h2 : c'.args.toList = [.tmp t, x]) (h3 : c'.argTypes.toList = [tt, t2])
    (h : appendHM P fr H t x tt t2 = some (c, v, u, H1)) (hc : c) : OpSem P o fr H v (upd fr u) H1 := by
  have ho' : o.op = .call { callee := .builtin .append, args := #[.tmp t, x], argTypes := #[tt, t2] } := by
    rw [ho]
    cases c'
    simp only at h1 h2 h3
    subst h1
    rw [toList_eq h2, toList_eq h3]
  unfold appendHM at h
  split at h
  · rename_i e sz by_ hs h2
    split at h
    · rename_i e1 e2
      rw [Bool.cond_eq_ite] at h
      split at h
      · rename_i hz
        have hz := Nat.eq_of_beq_eq_true hz
        subst hz
        split at h
        · rename_i e3
          rw [setL_eq] at h
          simp only [Option.some.injEq, Prod.mk.injEq] at h
          obtain ⟨rfl, rfl, rfl, rfl⟩ := h
          exact OpSem.appendHs ho' hs h2 e1 rfl e2 e3 hc.1 hc.2.1 hc.2.2
        · simp at h
      · simp at h
    · simp at h
  · simp at h
theorem copyM_sound {o : Oper} {c' : Call} {d x : Operand} {dT sT : TypeId} {c : Prop} {v : AV} {u : Option (Nat × AV)} (ho : o.op = .call c') (h1 : c'.callee = .builtin .copy) (h2 : c'.args.toList = [d, x]) (h3 : c'.argTypes.toList = [dT, sT])
    (h : copyM P fr H d x dT sT = some (c, v, u, H1)) (hc : c) : OpSem P o fr H v (upd fr u) H1 := by
  have ho' : o.op = .call { callee := .builtin .copy, args := #[d, x], argTypes := #[dT, sT] } := by
    rw [ho]
    cases c'
    simp only at h1 h2 h3
    subst h1
    rw [toList_eq h2, toList_eq h3]
  unfold copyM at h
  split at h
  · rename_i e1 e2 e3
    rw [Bool.cond_eq_ite] at h
    split at h
    · rename_i hz
      have hz := Nat.eq_of_beq_eq_true hz
      subst hz
      split at h
      · rename_i e4
        rw [setL_eq] at h
        simp only [Option.some.injEq, Prod.mk.injEq] at h
        obtain ⟨rfl, rfl, rfl, rfl⟩ := h
        exact OpSem.copy ho' e1 e2 rfl e3 rfl e4 hc.1 hc.2
      · simp at h
    · simp at h
  · simp at h
theorem litM_sound {o : Oper} {t len : Nat} {parts : Array (Nat × Operand)} {c : Prop} {v : AV} {u : Option (Nat × AV)} (ho : o.op = .buildSlice t len parts) (h : litM P fr H t len parts = some (c, v, u, H1)) (hc : c) : OpSem P o fr H v (upd fr u) H1 := by
  unfold litM at h
  split at h
  · rename_i e1
    split at h
    · split at h
      · rename_i e2
        rw [Bool.cond_eq_ite] at h
        split at h
        · rename_i hl
          simp only [Option.some.injEq, Prod.mk.injEq] at h
          obtain ⟨rfl, rfl, rfl, rfl⟩ := h
          exact OpSem.litB ho e1 e2 hl hc
        · simp at h
      · simp at h
    · simp only [Option.some.injEq, Prod.mk.injEq] at h
      obtain ⟨rfl, rfl, rfl, rfl⟩ := h
      exact OpSem.lit ho e1
  · simp at h
theorem litHM_sound {o : Oper} {t len : Nat} {parts : Array (Nat × Operand)} {c : Prop} {v : AV} {u : Option (Nat × AV)} (ho : o.op = .buildSlice t len parts) (h : litHM P fr H t len parts = some (c, v, u, H1)) (hc : c) : OpSem P o fr H v (upd fr u) H1 := by
  unfold litHM at h
  split at h
  · rename_i e1
    rw [litLen_eq, cellsF_eq, snocL_eq] at h
    simp only [Option.some.injEq, Prod.mk.injEq] at h
    obtain ⟨rfl, rfl, rfl, rfl⟩ := h
    exact OpSem.litHs ho e1
  · simp at h
theorem makeM_sound {o : Oper} {t : TypeId} {l k : Operand} {c : Prop} {v : AV} {u : Option (Nat × AV)} (ho : o.op = .makeSlice t l k) (h : makeM P fr H t l k = some (c, v, u, H1)) (hc : c) : OpSem P o fr H v (upd fr u) H1 := by
  unfold makeM at h
  split at h
  · rename_i e1 e2
    rw [Bool.cond_eq_ite] at h
    split at h
    · rename_i hby
      split at h
      · split at h
        all_goals
          simp only [Option.some.injEq, Prod.mk.injEq] at h
          obtain ⟨rfl, rfl, rfl, rfl⟩ := h
        · exact OpSem.make0B ho e1 rfl e2 hc.1 (by_le2 hby hc.1 hc.2) (by omega)
        · exact OpSem.make0 ho e1 rfl e2 hc.1 (by_le2 hby hc.1 hc.2) (by omega)
      · split at h
        · rename_i e3 e4
          (try rw [cellsF_eq] at h); rw [litLen_eq, snocL_eq] at h
          simp only [Option.some.injEq, Prod.mk.injEq] at h
          obtain ⟨rfl, rfl, rfl, rfl⟩ := h
          exact OpSem.make ho e1 e4 e3 e2 hc.1 hc.2.1 (by_le2 hby (by omega) hc.2.2) (by omega)
        · simp at h
    · simp at h
  · simp at h
theorem boxM_sound {o : Oper} {t : TypeId} {x : Operand} {c : Prop} {v : AV} {u : Option (Nat × AV)} (ho : o.op = .box t x) (h : boxM P fr H t x = some (c, v, u, H1)) (hc : c) : OpSem P o fr H v (upd fr u) H1 := by
  unfold boxM at h
  rw [AV.force_eq, Bool.cond_eq_ite] at h
  split at h
  · rename_i e
    rw [Bool.and_eq_true] at e
    (try rw [cellsF_eq] at h); rw [litLen_eq, snocL_eq] at h
    simp only [Option.some.injEq, Prod.mk.injEq] at h
    obtain ⟨rfl, rfl, rfl, rfl⟩ := h
    exact OpSem.box ho rfl e.1 e.2
  · simp at h
theorem storeM_sound {o : Oper} {t : TypeId} {A X : Operand} {c : Prop} {v : AV} {u : Option (Nat × AV)} (ho : o.op = .store t A X) (h : storeM P fr H t A X = some (c, v, u, H1)) (hc : c) : OpSem P o fr H v (upd fr u) H1 := by
  unfold storeM at h
  split at h
  · rename_i e1
    rw [AV.force_eq] at h
    split at h
    · rename_i e2 e3
      rw [Bool.cond_eq_ite] at h
      split at h
      · rename_i e
        simp only [Bool.and_eq_true] at e
        split at h
        · rename_i c1 e4
          rw [AV.force_eq, setL_eq] at h
          simp only [Option.some.injEq, Prod.mk.injEq] at h
          obtain ⟨rfl, rfl, rfl, rfl⟩ := h
          have key := OpSem.store ho e1 rfl e2 e.1.1 e.1.2 (by rw [e3, Nat.eq_of_beq_eq_true e.2]) (Nat.ble_eq_true_of_le (by rw [e4]; exact hc))
          rw [e4] at key
          have e5 : ∀ {blk : List AV} {off : Nat}, off + 1 ≤ blk.length → putCells blk off ([c1].map un1) = blk.set off (un1 c1) := by
            intro blk off hle
            simp only [putCells, List.map_cons, List.map_nil, List.length_singleton]
            rw [List.set_eq_take_append_cons_drop, if_pos (by omega)]; rfl
          rw [e5 hc] at key
          exact key
        · rw [setL_eq] at h
          simp only [Option.some.injEq, Prod.mk.injEq] at h
          obtain ⟨rfl, rfl, rfl, rfl⟩ := h
          exact OpSem.store ho e1 rfl e2 e.1.1 e.1.2 (by rw [e3, Nat.eq_of_beq_eq_true e.2]) (Nat.ble_eq_true_of_le hc)
      · simp at h
    · simp at h
  · simp at h
theorem convM_sound {o : Oper} {s d : TypeId} {x : Operand} {c : Prop} {v : AV} {u : Option (Nat × AV)} (ho : o.op = .convert s d x) (h : convM P fr H o s d x = some (c, v, u, H1)) (hc : c) : OpSem P o fr H v (upd fr u) H1 := by
  unfold convM at h
  split at h
  · rename_i e0
    split at h
    · rename_i e1 e2 e3
      simp only [Option.some.injEq, Prod.mk.injEq] at h
      obtain ⟨rfl, rfl, rfl, rfl⟩ := h
      exact OpSem.strBytes ho e1 e0 e3 e2
    · simp at h
  · exact pureM_sound h hc
theorem OpSem.constV {o : Oper} {x : Value} (ho : o.op = .move (.const x) ∨ o.op = .assign (.const x)) : OpSem P o fr H (ofVal P o.type x) fr H := by
  intro b a w G ρ n ops i rest k cs hoi hw hi
  have hr : (execOp a.eval o).run P w = .ok (.value x) w := by
    rcases ho with ho | ho <;> simp [execOp, ho, Act.eval]
  exact ⟨x, w, G, [], .one (step_value hoi hw hr), Trans.refl _ _, by rw [List.append_nil]; exact ⟨hi, VR.ofVal .., SpV_ofVal ..⟩⟩
theorem callM_sound {o : Oper} {c' : Call} {f : Operand} {k : CallK} {c : Prop} {v : AV} {u : Option (Nat × AV)} (ho : o.op = .call c') (h1 : c'.callee = .value f) (h : callM P fr H c' f k = some (c, v, u, H1)) (hc : c) : OpSem P o fr H v (upd fr u) H1 := by
  unfold callM at h
  split at h
  · rename_i g cap e1
    split at h
    · rename_i args e2
      rw [Bool.cond_eq_ite] at h
      split at h
      · rename_i e3
        rw [Bool.and_eq_true] at e3
        split at h
        · rename_i e4
          split at h
          · rename_i e5
            simp only [Option.some.injEq, Prod.mk.injEq] at h
            obtain ⟨rfl, rfl, rfl, rfl⟩ := h
            rw [e4] at e2
            have key := OpSem.call (P := P) (H := H) (fr := fr) ho h1 e1 e3.1 rfl e2 List.nodup_nil rfl rfl hc rfl rfl e3.2
            have e6 : backH [] H [] = H := by
              unfold backH
              exact List.ext_getElem? fun i => by simp [List.getElem?_mapIdx]
            rw [e6] at key
            exact key
          · simp at h
        · rename_i e4
          rw [Bool.cond_eq_ite] at h
          split at h
          · rename_i e5
            simp only [Bool.and_eq_true] at e5
            simp only [Option.some.injEq, Prod.mk.injEq] at h
            obtain ⟨rfl, rfl, rfl, rfl⟩ := h
            exact OpSem.call ho h1 e1 e3.1 rfl e2 (of_decide_eq_true e5.1.1) e5.1.2 hc.1 hc.2.2 e5.2 hc.2.1 e3.2
          · simp at h
      · simp at h
    · simp at h
  · simp at h
theorem evN_sound {tk : Bool} {ck : Option CallK} {o : Oper} {c : Prop} {v : AV} {u : Option (Nat × AV)} (h : evN P tk ck fr H o = some (c, v, u, H1)) (hc : c) : OpSem P o fr H v (upd fr u) H1 := by
  unfold evN at h
  split at h
  · rename_i x e
    simp only [Option.some.injEq, Prod.mk.injEq] at h
    obtain ⟨rfl, rfl, rfl, rfl⟩ := h
    exact OpSem.constV (.inl e)
  · rename_i x e
    simp only [Option.some.injEq, Prod.mk.injEq] at h
    obtain ⟨rfl, rfl, rfl, rfl⟩ := h
    exact OpSem.constV (.inr e)
  · rename_i e; cases tk
    · exact pureM_sound h hc
    · exact takeM_sound (.inl e) h hc
  · rename_i e; cases tk
    · exact pureM_sound h hc
    · exact takeM_sound (.inr e) h hc
  · rename_i e; cases tk
    · exact pureM_sound h hc
    · exact takeXM_sound e h hc
  · rename_i e
    split at h
    · rename_i e1 e2 e3
      rw [Bool.cond_eq_ite] at h
      split at h
      · exact appendHM_sound e e1 e2 e3 h hc
      · exact appendM_sound e e1 e2 e3 h hc
    · rename_i e1 e2 e3; exact copyM_sound e e1 e2 e3 h hc
    · exact pureM_sound h hc
    · rename_i e1
      split at h
      · exact callM_sound e e1 h hc
      · simp at h
    · simp at h
  · rename_i e
    rw [Bool.cond_eq_ite] at h
    split at h
    · exact litHM_sound e h hc
    · exact litM_sound e h hc
  · rename_i e; exact makeM_sound e h hc
  · rename_i e
    split at h
    · rename_i e1
      (try rw [cellsF_eq] at h); rw [litLen_eq, snocL_eq] at h
      simp only [Option.some.injEq, Prod.mk.injEq] at h
      obtain ⟨rfl, rfl, rfl, rfl⟩ := h
      exact OpSem.alloc e e1
    · simp at h
  · rename_i e; exact boxM_sound e h hc
  · rename_i e; exact storeM_sound e h hc
  · rename_i e; exact convM_sound e h hc
  · rename_i e
    unfold buildM at h
    split at h
    · rename_i e1
      simp only [Option.some.injEq, Prod.mk.injEq] at h
      obtain ⟨rfl, rfl, rfl, rfl⟩ := h
      exact OpSem.build e e1
    · simp at h
  · exact pureM_sound h hc

/-- a value said otherwise: what is to be shown of it stands in the condition -/
def isCV (o : Oper) : Bool := match o.op with
  | .call c => match c.callee with
    | .value _ => true
    | _ => false
  | _ => false
def sayR (a : AV) (r : R4) : R4 := match r with
  | some (c, v, u, H1) => some (c ∧ v = a, a, u, H1)
  | none => none
def ovr (ck : Option CallK) (o : Oper) (r : R4) : R4 := match ck with
  | none => r
  | some k => bif isCV o || hMark ck then r else sayR k.res r
/-- a load, its value told -/
def loadK (P : Program) (fr : Fr) (H : Heap) (t : TypeId) (a : Operand) (v : AV) : R4 := match opd P t fr a with
  | .ptr id off => match H[id]? with
    | some blk => match isAggT P t, szT P t with
      | some false, some _ => some (blk[off]? = some v, un v, none, H)
      | some true, some n => some (off + n ≤ blk.length ∧ AV.agg ((blk.drop off).take n) = v, v, none, H)
      | _, _ => none
    | none => none
  | .cptr x => match isAggT P t, szT P t with
    | some false, some _ => some (x.cells[0]? = some v, un v, none, H)
    | some true, some n => some (n ≤ x.cells.length ∧ AV.agg (x.cells.take n) = v, v, none, H)
    | _, _ => none
  | _ => none
def evM (P : Program) (tk : Bool) (ck : Option CallK) (fr : Fr) (H : Heap) (o : Oper) : R4 := match o.op, ck with
  | .load t a, some k => loadK P fr H t a k.res
  | _, _ => ovr ck o (evN P tk ck fr H o)
theorem loadK_sound {o : Oper} {t : TypeId} {a : Operand} {v0 : AV} {c : Prop} {v : AV} {u : Option (Nat × AV)} (ho : o.op = .load t a) (h : loadK P fr H t a v0 = some (c, v, u, H1)) (hc : c) : OpSem P o fr H v (upd fr u) H1 := by
  have key : ∀ v, loadE P H t (opd P t fr a) = some v → OpSem P o fr H v fr H := fun v hv => OpSem.pure (c := True) (by unfold evP; rw [ho]; simp only [tr, hv]) trivial
  unfold loadK at h
  split at h
  · rename_i id off e1
    split at h
    · rename_i blk e2
      split at h
      · rename_i n e3 e4
        simp only [Option.some.injEq, Prod.mk.injEq] at h
        obtain ⟨rfl, rfl, rfl, rfl⟩ := h
        refine key _ ?_
        rw [e1]
        simp only [loadE, e2, Option.bind_some, varE, e3, e4, hc, Option.map_some]
      · rename_i n e3 e4
        simp only [Option.some.injEq, Prod.mk.injEq] at h
        obtain ⟨rfl, rfl, rfl, rfl⟩ := h
        refine key _ ?_
        rw [e1]
        simp only [loadE, e2, Option.bind_some, varE, e3, e4]
        rw [Nat.ble_eq_true_of_le hc.1, ← hc.2]; rfl
      · simp at h
    · simp at h
  · rename_i x e1
    split at h
    · rename_i n e3 e4
      simp only [Option.some.injEq, Prod.mk.injEq] at h
      obtain ⟨rfl, rfl, rfl, rfl⟩ := h
      refine key _ ?_
      rw [e1]
      simp only [loadE, varE, e3, e4, hc, Option.map_some]
    · rename_i n e3 e4
      simp only [Option.some.injEq, Prod.mk.injEq] at h
      obtain ⟨rfl, rfl, rfl, rfl⟩ := h
      refine key _ ?_
      rw [e1]
      simp only [loadE, varE, e3, e4]
      rw [Nat.ble_eq_true_of_le (by omega), ← hc.2]; rfl
    · simp at h
  · simp at h
theorem loadK_h {t : TypeId} {a : Operand} {v0 : AV} {c : Prop} {v : AV} {u : Option (Nat × AV)} (h : loadK P fr H t a v0 = some (c, v, u, H1)) : u = none ∧ H1 = H := by
  unfold loadK at h
  split at h
  · split at h
    · split at h <;> simp at h
      · exact ⟨h.2.2.1.symm, h.2.2.2.symm⟩
      · exact ⟨h.2.2.1.symm, h.2.2.2.symm⟩
    · simp at h
  · split at h <;> simp at h
    · exact ⟨h.2.2.1.symm, h.2.2.2.symm⟩
    · exact ⟨h.2.2.1.symm, h.2.2.2.symm⟩
  · simp at h
theorem ovr_inv {ck : Option CallK} {o : Oper} {r : R4} {c : Prop} {v : AV} {u : Option (Nat × AV)} (h : ovr ck o r = some (c, v, u, H1)) : ∃ c0 v0, r = some (c0, v0, u, H1) ∧ (c → c0 ∧ v0 = v) := by
  unfold ovr at h
  split at h
  · exact ⟨c, v, h, fun h => ⟨h, rfl⟩⟩
  · rename_i k
    rw [Bool.cond_eq_ite] at h
    split at h
    · exact ⟨c, v, h, fun h => ⟨h, rfl⟩⟩
    · unfold sayR at h
      split at h
      · rename_i c0 v0 u0 H0 
        simp only [Option.some.injEq, Prod.mk.injEq] at h
        obtain ⟨rfl, rfl, rfl, rfl⟩ := h
        exact ⟨c0, v0, rfl, fun h => h⟩
      · simp at h
theorem evM_sound {tk : Bool} {ck : Option CallK} {o : Oper} {c : Prop} {v : AV} {u : Option (Nat × AV)} (h : evM P tk ck fr H o = some (c, v, u, H1)) (hc : c) : OpSem P o fr H v (upd fr u) H1 := by
  unfold evM at h
  split at h
  · rename_i e
    exact loadK_sound e h hc
  · obtain ⟨c0, v0, h0, h1⟩ := ovr_inv h
    obtain ⟨k1, rfl⟩ := h1 hc
    exact evN_sound h0 k1
/-! ### Regions -/
abbrev R3 := Option (Prop × Fr × Heap)
def dOK (n : Nat) : Option Nat → Bool
  | some d => Nat.blt d n
  | none => true
def stepE (P : Program) (n : Nat) (tk : Bool) (ck : Option CallK) (ops : Array Oper) (o : Oper) (fr : Fr) (H : Heap) : R3 :=
  match gOK ops fr o with
  | some true => match evM P tk ck fr H o with
    | some (c, v, none, H1) => match o.dst with
      | some d => bif Nat.blt d n then v.force fun v => some (c, fr.set d v, H1) else none
      | none => some (c, fr, H1)
    | some (c, v, some (t, x), H1) => match o.dst with
      | some d => bif Nat.blt d n then v.force fun v => some (c, (fr.set t x).set d v, H1) else none
      | none => some (c, fr.set t x, H1)
    | none => none
  | some false => match o.dst with
    | some d => bif Nat.blt d n then some (True, fr.set d (.tup []), H) else none
    | none => some (True, fr, H)
  | none => none
def ckOf (K : List (Nat × CallK)) (i : Nat) : Option CallK := match K with
  | [] => none
  | (j, k) :: r => bif Nat.beq i j then some k else ckOf r i
/-- several operations; 'K': the calls; the room never moved where 'nt' says so -/
def evR (P : Program) (n : Nat) (K : List (Nat × CallK)) (nt : List Nat) (ops : Array Oper) : List Nat → Fr → Heap → R3
  | [], fr, H => some (True, fr, H)
  | i :: is, fr, H => match ops[i]? with
    | some o => match stepE P n (!(nt.contains i)) (ckOf K i) ops o fr H with
      | some (c, fr1, H1) => match evR P n K nt ops is fr1 H1 with
        | some (c2, fr2, H2) => some (c ∧ c2, fr2, H2)
        | none => none
      | none => none
    | none => none
theorem Runs.stepE {i : Nat} {rest : List Nat} {o : Oper} {tk : Bool} {ck : Option CallK} {c : Prop} (ho : ops[i]? = some o) (h : stepE P n tk ck ops o fr H = some (c, fr1, H1)) (hc : c)
    (hk : Runs P f n k0 (.inRegion ops rest :: S) fr1 H1 res H') : Runs P f n k0 (.inRegion ops (i :: rest) :: S) fr H res H' := by
  unfold Am.stepE at h
  split at h
  · rename_i hg
    split at h
    case h_3 => simp at h
    all_goals
      rename_i he
      split at h
      · rename_i d hd
        rw [Bool.cond_eq_ite] at h
        split at h
        · rename_i hlt
          rw [AV.force_eq] at h
          simp only [Option.some.injEq, Prod.mk.injEq] at h
          obtain ⟨rfl, rfl, rfl⟩ := h
          refine Runs.op ho hg (by rw [hd]; exact hlt) (evM_sound he hc) ?_
          rw [hd]; exact hk
        · simp at h
      · rename_i hd
        simp only [Option.some.injEq, Prod.mk.injEq] at h
        obtain ⟨rfl, rfl, rfl⟩ := h
        refine Runs.op ho hg (by rw [hd]) (evM_sound he hc) ?_
        rw [hd]; exact hk
  · rename_i hg
    split at h
    · rename_i d hd
      rw [Bool.cond_eq_ite] at h
      split at h
      · rename_i hlt
        simp only [Option.some.injEq, Prod.mk.injEq] at h
        obtain ⟨rfl, rfl, rfl⟩ := h
        refine Runs.opSkip ho hg (by rw [hd]; exact hlt) ?_
        rw [hd]; exact hk
      · simp at h
    · rename_i hd
      simp only [Option.some.injEq, Prod.mk.injEq] at h
      obtain ⟨rfl, rfl, rfl⟩ := h
      refine Runs.opSkip ho hg (by rw [hd]) ?_
      rw [hd]; exact hk
  · simp at h
theorem Runs.evR {K : List (Nat × CallK)} {nt : List Nat} : ∀ {is rest : List Nat} {fr : Fr} {H : Heap} {c : Prop} {fr1 : Fr} {H1 : Heap}, evR P n K nt ops is fr H = some (c, fr1, H1) → c →
    Runs P f n k0 (.inRegion ops rest :: S) fr1 H1 res H' → Runs P f n k0 (.inRegion ops (is ++ rest) :: S) fr H res H'
  | [], rest, fr, H, c, fr1, H1, h, hc, hk => by
    simp only [Am.evR, Option.some.injEq, Prod.mk.injEq] at h
    obtain ⟨rfl, rfl, rfl⟩ := h
    exact hk
  | i :: is, rest, fr, H, c, fr1, H1, h, hc, hk => by
    unfold Am.evR at h
    split at h
    · rename_i o ho
      split at h
      · rename_i c1 fr2 H2 h1
        split at h
        · rename_i c2 fr3 H3 h2
          simp only [Option.some.injEq, Prod.mk.injEq] at h
          obtain ⟨rfl, rfl, rfl⟩ := h
          exact Runs.stepE ho h1 hc.1 (Runs.evR h2 hc.2 hk)
        · simp at h
      · simp at h
    · simp at h
/-- a whole region that is not drawn -/
theorem Runs.reg {id : Nat} (K : List (Nat × CallK)) (nt : List Nat) {c : Prop} (h : Am.evR P n K nt ops (List.range ops.size) fr H = some (c, fr1, H1)) (hc : c) (hk : Runs P f n k0 S fr1 H1 res H') :
    Runs P f n k0 (.code (.region id ops false) :: S) fr H res H' := by
  refine Runs.region ?_
  have := Runs.evR (rest := []) h hc (Runs.regionEnd hk)
  rwa [List.append_nil] at this
/-- what is left of a region -/
theorem Runs.rest {is : List Nat} (K : List (Nat × CallK)) (nt : List Nat) {c : Prop} (h : Am.evR P n K nt ops is fr H = some (c, fr1, H1)) (hc : c) (hk : Runs P f n k0 S fr1 H1 res H') :
    Runs P f n k0 (.inRegion ops is :: S) fr H res H' := by
  have := Runs.evR (rest := []) h hc (Runs.regionEnd hk)
  rwa [List.append_nil] at this
/-- the next 'm' operations -/
theorem Runs.restTo {is : List Nat} (m : Nat) (K : List (Nat × CallK)) (nt : List Nat) {c : Prop} (h : Am.evR P n K nt ops (is.take m) fr H = some (c, fr1, H1)) (hc : c) (hk : Runs P f n k0 (.inRegion ops (is.drop m) :: S) fr1 H1 res H') :
    Runs P f n k0 (.inRegion ops is :: S) fr H res H' := by
  have := Runs.evR h hc hk
  rwa [List.take_append_drop] at this
/-- the frame said anew: some slots, the others unknown -/
def frL (l : List (Nat × AV)) : Fr := fun i => match l with
  | [] => .bad
  | (j, v) :: r => bif Nat.beq i j then v else frL r i
def noTup : AV → Bool
  | .tup _ => false
  | _ => true
theorem SpV_noTup {G : Gh} {t : Nat → Own} {a : AV} {v : Value} (h : noTup a = true) : SpV G t a v = Sp G (t 0) a v := by
  cases a <;> first | rfl | simp [noTup] at h
/-- the same, or it says no more -/
def Imq (a b : AV) : Prop := a = b ∨ (Imp a b ∧ noTup a = true ∧ noTup b = true)
def agree (fr : Fr) : List (Nat × AV) → Prop
  | [] => True
  | (j, v) :: r => Imq (fr j) v ∧ agree fr r
theorem frL_agree {fr : Fr} : ∀ {l : List (Nat × AV)}, agree fr l → ∀ i, frL l i = .bad ∨ Imq (fr i) (frL l i)
  | [], _, i => .inl (by unfold frL; rfl)
  | (j, v) :: r, h, i => by
    unfold frL
    cases hb : Nat.beq i j with
    | true => have := Nat.eq_of_beq_eq_true hb; subst this; exact .inr h.1
    | false => exact frL_agree h.2 i
theorem Runs.frame (l : List (Nat × AV)) (h : agree fr l) (hk : Runs P f n k0 S (frL l) H res H') : Runs P f n k0 S fr H res H' := by
  refine Runs.ghost (fun w G ρ tmps hkk h4 => ⟨G, ρ, Trans.refl _ _, ⟨h4.size, fun i => ?_, h4.br, h4.wi⟩, hkk, rfl⟩) hk
  rcases frL_agree h i with e | e | ⟨e1, e2, e3⟩
  · rw [e]; exact ⟨.bad .., by simp [SpV, Sp]⟩
  · rw [← e]; exact h4.fr i
  · obtain ⟨k1, k2⟩ := h4.fr i
    rw [SpV_noTup e2] at k2
    obtain ⟨k3, k4⟩ := e1 G w ρ _ k1
    exact ⟨k3, by rw [SpV_noTup e3]; exact k4 _ k2⟩
theorem Runs.heap {H2 : Heap} (h : H = H2) (hk : Runs P f n k0 S fr H2 res H') : Runs P f n k0 S fr H res H' := by rw [h]; exact hk
/-- a loop by an invariant on named slots -/
theorem Runs.loopF {c : Code} {σ : Type} (I : σ → Prop) (L : σ → List (Nat × AV)) (Hp : σ → Heap) (μ : σ → Nat) (s : σ) (h0 : I s) (hf : agree fr (L s)) (hh : H = Hp s)
    (round : ∀ s, I s → (∀ s' fr' H1, I s' → μ s' < μ s → agree fr' (L s') → H1 = Hp s' → Runs P f n k0 (.inLoop c :: S) fr' H1 res H') → Runs P f n k0 (.code c :: .inLoop c :: S) (frL (L s)) (Hp s) res H') :
    Runs P f n k0 (.code (.loop c) :: S) fr H res H' := by
  refine Runs.loopI (fun s fr H => I s ∧ agree fr (L s) ∧ H = Hp s) μ (fun s fr H hp ih => ?_) s ⟨h0, hf, hh⟩
  obtain ⟨h1, h2, rfl⟩ := hp
  exact Runs.frame _ h2 (round s h1 fun s' fr' H1 k1 k2 k3 k4 => ih s' fr' H1 k2 ⟨k1, k3, k4⟩)
end Go.Am
