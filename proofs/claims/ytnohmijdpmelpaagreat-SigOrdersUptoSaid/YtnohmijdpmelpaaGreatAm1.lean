/- The abstract machine: values, relation to the real machine's values, what a step keeps. -/
import Derived.Calls
import Derived.Laws.Sem
import Derived.Laws.World
import Derived.KernelRfl
set_option linter.unusedSectionVars false
set_option linter.unusedVariables false
namespace Go.Am
open Go

inductive AV where
  | int (k : IntKind) (n : Int)
  | bool (b : Bool)
  | str (s : List UInt8)
  | bs (s : List UInt8) (own : Bool)
  | sl (sz n : Nat) (el : Nat → AV) (own : Bool)
  | hs (id off len cap : Nat)
  | ptr (id off : Nat)
  | nilp
  | cptr (v : AV)
  | fn (f : Fn) (cap : List AV)
  | nilfn
  | iface (t : TypeId) (v : AV)
  | nili
  | agg (cs : List AV)
  | tup (vs : List AV)
  | bad

abbrev Fr := Nat → AV
abbrev Heap := List (List AV)
def Fr.set (fr : Fr) (d : Nat) (v : AV) : Fr := fun i => bif Nat.beq i d then v else fr i
def AV.cells : AV → List AV
  | .agg cs => cs
  | v => [v]
def byteEl (s : List UInt8) : Nat → AV := fun i => .int .u8 (s.getD i 0).toNat

inductive Own where
  | free | frz | ctx
  | slot (i c : Nat)
  | cell (id : Nat)
  | spare (id j : Nat)
  | res (c : Nat)
  deriving DecidableEq
def Own.mine : Own → Bool
  | .slot .. | .cell _ | .spare .. | .res _ => true
  | _ => false
abbrev Gh := Nat → Nat → Own
def mkA (b o : Nat) : Addr := ⟨b, o, none⟩
theorem mkA_add (b o n : Nat) : (mkA b o).add n = mkA b (o + n) := by
  unfold Addr.add mkA; split <;> simp_all

inductive VR (G : Gh) (w : World) : List Nat → AV → Value → Prop where
  | int (ρ k n) : VR G w ρ (.int k n) (.int k n)
  | bool (ρ b) : VR G w ρ (.bool b) (.bool b)
  | str (ρ s) : VR G w ρ (.str s) (.string ⟨s.toArray⟩)
  | sl (ρ sz n el own) (base : Option (Nat × Nat)) (cap : Nat) (vs : Nat → Value) (hn : n ≤ cap) (hb : base = none → cap = 0)
      (hsz : ∀ i, i < n → (el i).cells.length = sz)
      (hc : ∀ b o, base = some (b, o) → ∀ q, q < n * sz → G b (o + q) = .frz ∧ w.cell? (mkA b (o + q)) = some (vs q))
      (hv : ∀ (i j : Nat) (c : AV), i < n → (el i).cells[j]? = some c → VR G w [] c (vs (i * sz + j))) :
      VR G w ρ (.sl sz n el own) (.slice (base.map fun p => mkA p.1 p.2) n cap)
  | bs (ρ s own v) (h : VR G w [] (.sl 1 s.length (byteEl s) own) v) : VR G w ρ (.bs s own) v
  | hs (ρ id off len cap b) (h : ρ[id]? = some b) : VR G w ρ (.hs id off len cap) (.slice (some (mkA b off)) len cap)
  | ptr (ρ id off b) (h : ρ[id]? = some b) : VR G w ρ (.ptr id off) (.pointer (some (mkA b off)))
  | nilp (ρ) : VR G w ρ .nilp (.pointer none)
  | cptr (ρ v b o) (vs : Nat → Value) (hc : ∀ q, q < v.cells.length → G b (o + q) = .frz ∧ w.cell? (mkA b (o + q)) = some (vs q))
      (hv : ∀ (q : Nat) (c : AV), v.cells[q]? = some c → VR G w [] c (vs q)) : VR G w ρ (.cptr v) (.pointer (some (mkA b o)))
  | fn (ρ f cap) (vs : List Value) (hl : vs.length = cap.length) (hv : ∀ (q : Nat) (c : AV) (v : Value), cap[q]? = some c → vs[q]? = some v → VR G w ρ c v) :
      VR G w ρ (.fn f cap) (.func f #[] vs.toArray)
  | nilfn (ρ) : VR G w ρ .nilfn .nilFunc
  | iface (ρ t v x) (h : VR G w ρ v x) : VR G w ρ (.iface t v) (.iface t x)
  | nili (ρ) : VR G w ρ .nili .nilIface
  | agg (ρ cs) (vs : List Value) (hl : vs.length = cs.length) (hv : ∀ (q : Nat) (c : AV) (v : Value), cs[q]? = some c → vs[q]? = some v → VR G w ρ c v) :
      VR G w ρ (.agg cs) (.agg vs.toArray)
  | tup (ρ cs) (vs : List Value) (hl : vs.length = cs.length) (hv : ∀ (q : Nat) (c : AV) (v : Value), cs[q]? = some c → vs[q]? = some v → VR G w ρ c v) :
      VR G w ρ (.tup cs) (.tuple vs.toArray)
  | bad (ρ v) : VR G w ρ .bad v

/-- who owns the room behind a slice -/
def Sp (G : Gh) (t : Own) : AV → Value → Prop
  | .bs s true, .slice (some a) len cap => a.spot = none → ∀ q, len ≤ q → q < cap → G a.block (a.off + q) = t
  | .sl sz n el true, .slice (some a) len cap => a.spot = none → ∀ q, len * sz ≤ q → q < cap * sz → G a.block (a.off + q) = t
  | _, _ => True
def SpV (G : Gh) (t : Nat → Own) : AV → Value → Prop
  | .tup vs, .tuple ws => ∀ c x y, vs[c]? = some x → ws[c]? = some y → Sp G (t c) x y
  | x, y => Sp G (t 0) x y

/-- package variables of which the cells are known and never written -/
class Tab where
  k : Nat → Option (Array Value)
variable [Tab]
def TabOK (G : Gh) (w : World) : Prop := ∀ b cs, Tab.k b = some cs → (∃ e fz, w.heap[b]? = some (.cells cs e fz)) ∧ ∀ o, G b o = .frz ∨ G b o = .ctx
structure WI (G : Gh) (w : World) : Prop where
  own : ∀ b o, (G b o).mine = true → (w.cell? (mkA b o)).isSome = true ∧ w.frozen? (mkA b o) = false
  old : ∀ b o, w.heap.size ≤ b → G b o = .free
  one : ∀ b o v, (G b o = .frz ∨ (G b o).mine = true) → w.cell? (mkA b o) = some v → v.oneCell' = true
  tab : TabOK G w
def FR (G : Gh) (w : World) (ρ : List Nat) (fr : Fr) (tmps : Array Value) : Prop :=
  ∀ i, VR G w ρ (fr i) (tmps.getD i undef) ∧ SpV G (.slot i) (fr i) (tmps.getD i undef)
structure BR (G : Gh) (w : World) (ρ : List Nat) (H : Heap) : Prop where
  len : H.length = ρ.length
  cell : ∀ id b blk j c, ρ[id]? = some b → H[id]? = some blk → blk[j]? = some c →
    G b j = .cell id ∧ ∃ v, w.cell? (mkA b j) = some v ∧ VR G w ρ c v ∧ Sp G (.spare id j) c v
structure Inv (G : Gh) (w : World) (ρ : List Nat) (n : Nat) (fr : Fr) (H : Heap) (tmps : Array Value) : Prop where
  size : tmps.size = n
  fr : FR G w ρ fr tmps
  br : BR G w ρ H
  wi : WI G w
structure Trans (G : Gh) (w : World) (G' : Gh) (w' : World) : Prop where
  os : w'.os = w.os
  tape : w'.tape = w.tape
  output : w'.output = w.output
  size : w.heap.size ≤ w'.heap.size
  frz : ∀ b o, G b o = .frz → G' b o = .frz
  ctx : ∀ b o, G b o = .ctx → G' b o = .ctx
  cell : ∀ b o, G b o = .frz ∨ G b o = .ctx → w'.cell? (mkA b o) = w.cell? (mkA b o) ∧ w'.frozen? (mkA b o) = w.frozen? (mkA b o)
  blk : ∀ b, b < w.heap.size → (∀ o, G b o = .frz ∨ G b o = .ctx) → w'.heap[b]? = w.heap[b]?
  fz : ∀ b o, G b o ≠ .frz → G' b o = .frz → w'.frozen? (mkA b o) = false

theorem Trans.refl (G : Gh) (w : World) : Trans G w G w :=
  ⟨rfl, rfl, rfl, Nat.le_refl _, fun _ _ h => h, fun _ _ h => h, fun _ _ _ => ⟨rfl, rfl⟩, fun _ _ _ => rfl, fun _ _ h1 h2 => absurd h2 h1⟩
theorem Trans.trans {G w G1 w1 G2 w2} (h : Trans G w G1 w1) (k : Trans G1 w1 G2 w2) : Trans G w G2 w2 where
  os := k.os.trans h.os
  tape := k.tape.trans h.tape
  output := k.output.trans h.output
  size := Nat.le_trans h.size k.size
  frz b o e := k.frz b o (h.frz b o e)
  ctx b o e := k.ctx b o (h.ctx b o e)
  cell b o e := by
    have h1 := h.cell b o e
    have h2 := k.cell b o (e.imp (h.frz b o) (h.ctx b o))
    exact ⟨h2.1.trans h1.1, h2.2.trans h1.2⟩
  blk b hb e := (k.blk b (Nat.lt_of_lt_of_le hb h.size) fun o => (e o).imp (h.frz b o) (h.ctx b o)).trans (h.blk b hb e)
  fz b o e1 e2 := by
    by_cases h1 : G1 b o = .frz
    · rw [(k.cell b o (.inl h1)).2]; exact h.fz b o e1 h1
    · exact k.fz b o h1 e2

theorem TabOK.trans {G w G' w'} (h : Trans G w G' w') (k : TabOK G w) : TabOK G' w' := fun b cs e => by
  obtain ⟨⟨el, fz, h1⟩, h2⟩ := k b cs e
  have hb : b < w.heap.size := (Array.getElem?_eq_some_iff.1 h1).1
  exact ⟨⟨el, fz, by rw [h.blk b hb h2]; exact h1⟩, fun o => (h2 o).imp (h.frz b o) (h.ctx b o)⟩
/-- what pure values hang on -/
def Keeps (G : Gh) (w : World) (G' : Gh) (w' : World) : Prop :=
  ∀ b o, G b o = .frz → G' b o = .frz ∧ w'.cell? (mkA b o) = w.cell? (mkA b o)
theorem Trans.keeps {G w G' w'} (h : Trans G w G' w') : Keeps G w G' w' := fun b o e => ⟨h.frz b o e, (h.cell b o (.inl e)).1⟩
theorem Keeps.refl (G : Gh) (w : World) : Keeps G w G w := fun _ _ e => ⟨e, rfl⟩
theorem VR.keep {G w G' w'} (k : Keeps G w G' w') {ρ a v} (h : VR G w ρ a v) : VR G' w' ρ a v := by
  induction h with
  | int => exact .int ..
  | bool => exact .bool ..
  | str => exact .str ..
  | sl ρ sz n el own base cap vs hn hb hsz hc hv ih =>
    exact .sl _ _ _ _ _ _ _ vs hn hb hsz (fun b o e q hq => by
      have := hc b o e q hq
      have h2 := k b _ this.1
      exact ⟨h2.1, h2.2.trans this.2⟩) ih
  | bs ρ s own v h ih => exact .bs _ _ _ _ ih
  | hs ρ id off len cap b h => exact .hs _ _ _ _ _ _ h
  | ptr ρ id off b h => exact .ptr _ _ _ _ h
  | nilp => exact .nilp _
  | cptr ρ v b o vs hc hv ih =>
    exact .cptr _ _ _ _ vs (fun q hq => by
      have := hc q hq
      have h2 := k b _ this.1
      exact ⟨h2.1, h2.2.trans this.2⟩) ih
  | fn ρ f cap vs hl hv ih => exact .fn _ _ _ vs hl ih
  | nilfn => exact .nilfn _
  | iface ρ t v x h ih => exact .iface _ _ _ _ ih
  | nili => exact .nili _
  | agg ρ cs vs hl hv ih => exact .agg _ _ vs hl ih
  | tup ρ cs vs hl hv ih => exact .tup _ _ vs hl ih
  | bad => exact .bad _ _
/-- other numbers of the blocks -/
theorem VR.ren {G w ρ a v} (h : VR G w ρ a v) : ∀ {ρ' : List Nat}, (∀ (id : Nat) (b : Nat), ρ[id]? = some b → ρ'[id]? = some b) → VR G w ρ' a v := by
  induction h with
  | int => exact fun _ => .int ..
  | bool => exact fun _ => .bool ..
  | str => exact fun _ => .str ..
  | sl ρ sz n el own base cap vs hn hb hsz hc hv ih => exact fun _ => .sl _ _ _ _ _ _ _ vs hn hb hsz hc hv
  | bs ρ s own v h ih => exact fun _ => .bs _ _ _ _ h
  | hs ρ id off len cap b h => exact fun k => .hs _ _ _ _ _ _ (k _ _ h)
  | ptr ρ id off b h => exact fun k => .ptr _ _ _ _ (k _ _ h)
  | nilp => exact fun _ => .nilp _
  | cptr ρ v b o vs hc hv ih => exact fun _ => .cptr _ _ _ _ vs hc hv
  | fn ρ f cap vs hl hv ih => exact fun k => .fn _ _ _ vs hl fun q c v h1 h2 => ih q c v h1 h2 k
  | nilfn => exact fun _ => .nilfn _
  | iface ρ t v x h ih => exact fun k => .iface _ _ _ _ (ih k)
  | nili => exact fun _ => .nili _
  | agg ρ cs vs hl hv ih => exact fun k => .agg _ _ vs hl fun q c v h1 h2 => ih q c v h1 h2 k
  | tup ρ cs vs hl hv ih => exact fun k => .tup _ _ vs hl fun q c v h1 h2 => ih q c v h1 h2 k
  | bad => exact fun _ => .bad _ _
theorem VR.of_nil {G w ρ a v} (h : VR G w [] a v) : VR G w ρ a v := h.ren (fun _ _ h => by simp at h)
theorem VR.app {G w ρ ρ2 a v} (h : VR G w ρ a v) : VR G w (ρ ++ ρ2) a v := h.ren (fun id b h => by
  have : id < ρ.length := (List.getElem?_eq_some_iff.1 h).1
  rw [List.getElem?_append_left this]; exact h)
end Go.Am
