/- The abstract machine: one pure operation, reckoned ('evP'), and that it is right. -/
import Derived.Test.YtnohmijdpmelpaaGreatAm4
set_option linter.unusedSectionVars false
set_option linter.unusedVariables false
set_option linter.unusedSimpArgs false
namespace Go.Am
open Go
variable [Tab]

def isAggT (P : Program) (t : TypeId) : Option Bool :=
  match P.underlying t with
  | some (.struct _) => some true
  | some (.array _ _) => some true
  | some _ => some false
  | none => none
/-- a number, as a numeral -/
def litN {β : Type} (n : Nat) (k : Nat → β) : β := bif Nat.beq n 0 then k 0 else bif Nat.beq n 1 then k 1 else bif Nat.beq n 2 then k 2 else bif Nat.beq n 3 then k 3 else bif Nat.beq n 4 then k 4 else bif Nat.beq n 5 then k 5 else bif Nat.beq n 6 then k 6 else bif Nat.beq n 7 then k 7 else bif Nat.beq n 8 then k 8 else bif Nat.beq n 9 then k 9 else bif Nat.beq n 10 then k 10 else bif Nat.beq n 11 then k 11 else bif Nat.beq n 12 then k 12 else bif Nat.beq n 13 then k 13 else bif Nat.beq n 14 then k 14 else bif Nat.beq n 15 then k 15 else bif Nat.beq n 16 then k 16 else bif Nat.beq n 17 then k 17 else bif Nat.beq n 18 then k 18 else bif Nat.beq n 19 then k 19 else bif Nat.beq n 20 then k 20 else bif Nat.beq n 21 then k 21 else bif Nat.beq n 22 then k 22 else bif Nat.beq n 23 then k 23 else bif Nat.beq n 24 then k 24 else bif Nat.beq n 25 then k 25 else bif Nat.beq n 26 then k 26 else bif Nat.beq n 27 then k 27 else bif Nat.beq n 28 then k 28 else bif Nat.beq n 29 then k 29 else bif Nat.beq n 30 then k 30 else bif Nat.beq n 31 then k 31 else bif Nat.beq n 32 then k 32 else bif Nat.beq n 33 then k 33 else bif Nat.beq n 34 then k 34 else bif Nat.beq n 35 then k 35 else bif Nat.beq n 36 then k 36 else bif Nat.beq n 37 then k 37 else bif Nat.beq n 38 then k 38 else bif Nat.beq n 39 then k 39 else bif Nat.beq n 40 then k 40 else k n
theorem litN_eq {β : Type} (n : Nat) (k : Nat → β) : litN n k = k n := by
  have key : ∀ (m : Nat) (x : β), x = k n → (bif Nat.beq n m then k m else x) = k n := by
    intro m x hx
    cases hb : Nat.beq n m with
    | true => rw [Nat.eq_of_beq_eq_true hb]; rfl
    | false => exact hx
  unfold litN
  repeat (first | rfl | refine key _ _ ?_)
def szT (P : Program) (t : TypeId) : Option Nat := match P.info? t with
  | some i => litN i.size some
  | none => none
theorem szT_eq (P : Program) (t : TypeId) : szT P t = (P.info? t).map (·.size) := by
  unfold szT; split <;> rename_i e <;> rw [e]
  · rw [litN_eq]; rfl
  · rfl
def partE (P : Program) (t : TypeId) (cs : List AV) (off : Nat) : Option AV :=
  match isAggT P t, szT P t with
  | some true, some n => some (.agg ((cs.drop off).take n))
  | some false, some _ => (cs[off]?).map un
  | _, _ => none
/-- a variable's value out of its cells -/
def varE (P : Program) (t : TypeId) (cs : List AV) (off : Nat) : Option AV :=
  match isAggT P t, szT P t with
  | some true, some n => bif Nat.ble (off + n) cs.length then some (.agg ((cs.drop off).take n)) else none
  | some false, some _ => (cs[off]?).map un
  | _, _ => none
def unE (op : UnOp) (x : AV) : Option AV :=
  match op, x with
  | .neg, .int k a => some (.int k (k.wrap (0 - a)))
  | .xor, .int k a => some (.int k (bitsE .xor k (if k.signed then -1 else k.max) a))
  | .not, .bool b => some (.bool (!b))
  | _, _ => none
def convE (P : Program) (s d : TypeId) (x : AV) : Option AV :=
  match P.underlying s, P.underlying d, x with
  | some _, some (.int k), .int _ a => some (.int k (k.wrap a))
  | some _, some .string, .str a => some (.str a)
  | some (.slice e), some .string, .bs a _ => match P.underlying e with | some (.int .u8) => some (.str a) | _ => none
  | _, _, _ => none
def lenE (P : Program) (t : TypeId) (x : AV) : Option AV :=
  match P.underlying t, x with
  | some .string, .str s => some (.int .i64 s.length)
  | some (.slice _), .bs s _ => some (.int .i64 s.length)
  | some (.slice _), .sl _ m _ _ => some (.int .i64 m)
  | some (.slice _), .hs _ _ m _ => some (.int .i64 m)
  | _, _ => none
def indexE (P : Program) (t : TypeId) (x i : AV) : Option (Prop × AV) :=
  match P.underlying t, x, i with
  | some .string, .str s, .int _ j => some (0 ≤ j ∧ j < s.length, .int .u8 (s.getD j.toNat 0).toNat)
  | some (.array m e), .agg cs, .int _ j => match isAggT P e, szT P e with
    | some false, some 1 => some (0 ≤ j ∧ j < m ∧ m ≤ cs.length, un (cs.getD j.toNat .bad))
    | _, _ => none
  | _, _, _ => none
def indexAddrE (P : Program) (t : TypeId) (x i : AV) : Option (Prop × AV) :=
  match P.underlying t, x, i with
  | some (.slice e), .bs s _, .int _ j => match szT P e with
    | some 1 => some (0 ≤ j ∧ j < s.length, .cptr (byteEl s j.toNat))
    | _ => none
  | some (.slice e), .sl sz m el _, .int _ j => match szT P e with
    | some z => bif Nat.beq z sz then some (0 ≤ j ∧ j < m, .cptr (el j.toNat)) else none
    | _ => none
  | some (.slice e), .hs id off m _, .int _ j => match szT P e with
    | some z => some (0 ≤ j ∧ j < m, .ptr id (off + j.toNat * z))
    | _ => none
  | some (.array m e), .ptr id off, .int _ j => match szT P e with
    | some z => some (0 ≤ j ∧ j < m, .ptr id (off + j.toNat * z))
    | _ => none
  | _, _, _ => none
def loadE (P : Program) (H : Heap) (t : TypeId) (x : AV) : Option AV :=
  match x with
  | .cptr v => varE P t v.cells 0
  | .ptr id off => (H[id]?).bind fun blk => varE P t blk off
  | _ => none
def fieldOf (P : Program) (s : TypeId) (f : Nat) : Option (Nat × TypeId) :=
  match P.underlying s with
  | some (.struct fs) => (fs[f]?).map fun x => (x.offset, x.type)
  | _ => none
def isSc : AV → Bool
  | .agg _ => false
  | _ => true
def fieldAddrE (P : Program) (s : TypeId) (x : AV) (f : Nat) : Option AV :=
  match fieldOf P s f, x with
  | some (o, t), .ptr id off => match szT P t with
    | some (_ + 1) => some (.ptr id (off + o))
    | _ => none
  | some (o, t), .cptr (.agg cs) => match szT P t with
    | some (z + 1) => bif Nat.ble (o + (z + 1)) cs.length then (match isAggT P t with
      | some true => some (.cptr (.agg ((cs.drop o).take (z + 1))))
      | some false => (cs[o]?).bind fun c => bif isSc c then some (.cptr c) else none
      | none => none) else none
    | _ => none
  | _, _ => none
def fieldE (P : Program) (s : TypeId) (x : AV) (f : Nat) : Option AV :=
  match fieldOf P s f, x with
  | some (o, t), .agg cs => partE P t cs o
  | _, _ => none
def extractE (x : AV) (i : Nat) : Option AV :=
  match x with
  | .tup vs => (vs[i]?).map un
  | _ => none
def nilCheckE (x : AV) : Option AV :=
  match x with
  | .ptr id off => some (.ptr id off)
  | .cptr v => some (.cptr v)
  | .iface t v => some (.iface t v)
  | .fn (.func f) c => some (.fn (.func f) c)
  | _ => none
def isIface (P : Program) (t : TypeId) : Option Bool :=
  match P.underlying t with
  | some (.interface _) => some true
  | some _ => some false
  | none => none
def strSliceE (s : List UInt8) (lo hi : Option AV) : Option (Prop × AV) :=
  match lo, hi with
  | none, none => some (True, .str s)
  | some (.int _ l), none => some (0 ≤ l ∧ l ≤ s.length, .str (s.drop l.toNat))
  | none, some (.int _ h) => some (0 ≤ h ∧ h ≤ s.length, .str (s.take h.toNat))
  | some (.int _ l), some (.int _ h) => some (0 ≤ l ∧ l ≤ h ∧ h ≤ s.length, .str ((s.take h.toNat).drop l.toNat))
  | _, _ => none
def minMaxE (mn : Bool) (x y : AV) : Option AV :=
  match x, y with
  | .int k a, .int k' b => bif sameK k k' then some (.int k (bif mn then (if b < a then b else a) else (if a < b then b else a))) else none
  | _, _ => none
end Go.Am
