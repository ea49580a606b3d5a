/- The abstract machine: values, relation to the real machine's values, what a step keeps. The abstract machine: 'from this todo list on, the function returns this value', and its rules for the code's frame. The abstract machine: an operation of a region. The abstract machine: operations that only reckon or read. The abstract machine: one pure operation, reckoned ('evP'), and that it is right. The abstract machine: the pure operations are right. -/
import Derived.Calls
import Derived.Laws.Sem
import Derived.Laws.World
import Derived.KernelRfl
import Derived.Laws.IdiomCopy
import Derived.Laws.BytesArg
set_option linter.unusedSectionVars false
set_option linter.unusedVariables false
namespace Go.Am
open Go

inductive AV where
  | int (k : IntKind) (n : Int)
  | bool (b : Bool)
  | str (s : List UInt8)
  | bs (s : List UInt8) (own : Bool)
  | sl (sz n : Nat) (el : Nat → AV) (own : Bool)
  | hs (id off len cap : Nat)
  | ptr (id off : Nat)
  | nilp
  | cptr (v : AV)
  | fn (f : Fn) (cap : List AV)
  | nilfn
  | nilsl
  | iface (t : TypeId) (v : AV)
  | nili
  | agg (cs : List AV)
  | tup (vs : List AV)
  | bad

abbrev Fr := Nat → AV
abbrev Heap := List (List AV)
def Fr.set (fr : Fr) (d : Nat) (v : AV) : Fr := fun i => bif Nat.beq i d then v else fr i
def AV.cells : AV → List AV
  | .agg cs => cs
  | v => [v]
def byteEl (s : List UInt8) : Nat → AV := fun i => .int .u8 (s.getD i 0).toNat

inductive Own where
  | free | frz | ctx
  | slot (i c : Nat)
  | cell (id : Nat)
  | spare (id j : Nat)
  | res (c : Nat)
  deriving DecidableEq
def Own.mine : Own → Bool
  | .slot .. | .cell _ | .spare .. | .res _ => true
  | _ => false
abbrev Gh := Nat → Nat → Own
def mkA (b o : Nat) : Addr := ⟨b, o, none⟩
theorem mkA_add (b o n : Nat) : (mkA b o).add n = mkA b (o + n) := by
  unfold Addr.add mkA; split <;> simp_all

inductive VR (G : Gh) (w : World) : List Nat → AV → Value → Prop where
  | int (ρ k n) : VR G w ρ (.int k n) (.int k n)
  | bool (ρ b) : VR G w ρ (.bool b) (.bool b)
  | str (ρ s) : VR G w ρ (.str s) (.string ⟨s.toArray⟩)
  | sl (ρ sz n el own) (base : Option (Nat × Nat)) (cap : Nat) (vs : Nat → Value) (hn : n ≤ cap) (hb : base = none → cap = 0)
      (hsz : ∀ i, i < n → (el i).cells.length = sz)
      (hc : ∀ b o, base = some (b, o) → ∀ q, q < n * sz → G b (o + q) = .frz ∧ w.cell? (mkA b (o + q)) = some (vs q))
      (hv : ∀ (i j : Nat) (c : AV), i < n → (el i).cells[j]? = some c → VR G w [] c (vs (i * sz + j))) :
      VR G w ρ (.sl sz n el own) (.slice (base.map fun p => mkA p.1 p.2) n cap)
  | bs (ρ s own v) (h : VR G w [] (.sl 1 s.length (byteEl s) own) v) : VR G w ρ (.bs s own) v
  | hs (ρ id off len cap b) (h : ρ[id]? = some b) : VR G w ρ (.hs id off len cap) (.slice (some (mkA b off)) len cap)
  | ptr (ρ id off b) (h : ρ[id]? = some b) : VR G w ρ (.ptr id off) (.pointer (some (mkA b off)))
  | nilp (ρ) : VR G w ρ .nilp (.pointer none)
  | cptr (ρ v b o) (vs : Nat → Value) (hc : ∀ q, q < v.cells.length → G b (o + q) = .frz ∧ w.cell? (mkA b (o + q)) = some (vs q))
      (hv : ∀ (q : Nat) (c : AV), v.cells[q]? = some c → VR G w [] c (vs q)) : VR G w ρ (.cptr v) (.pointer (some (mkA b o)))
  | fn (ρ) (f : FuncId) (cap) (vs : List Value) (hl : vs.length = cap.length) (hv : ∀ (q : Nat) (c : AV) (v : Value), cap[q]? = some c → vs[q]? = some v → VR G w ρ c v) :
      VR G w ρ (.fn (.func f) cap) (.func (.func f) #[] vs.toArray)
  /-- a function with its receiver -/
  | bfn (ρ g r v) (h : VR G w ρ r v) : VR G w ρ (.fn (.via 0 #[] g true) [r]) (.func (.func g) #[v] #[])
  | nilfn (ρ) : VR G w ρ .nilfn .nilFunc
  /-- nil, and known to be -/
  | nilsl (ρ) : VR G w ρ .nilsl (.slice none 0 0)
  | iface (ρ t v x) (h : VR G w ρ v x) : VR G w ρ (.iface t v) (.iface t x)
  | nili (ρ) : VR G w ρ .nili .nilIface
  | agg (ρ cs) (vs : List Value) (hl : vs.length = cs.length) (hv : ∀ (q : Nat) (c : AV) (v : Value), cs[q]? = some c → vs[q]? = some v → VR G w ρ c v) :
      VR G w ρ (.agg cs) (.agg vs.toArray)
  | tup (ρ cs) (vs : List Value) (hl : vs.length = cs.length) (hv : ∀ (q : Nat) (c : AV) (v : Value), cs[q]? = some c → vs[q]? = some v → VR G w ρ c v) :
      VR G w ρ (.tup cs) (.tuple vs.toArray)
  | bad (ρ v) : VR G w ρ .bad v

/-- who owns the room behind a slice -/
def Sp (G : Gh) (t : Own) : AV → Value → Prop
  | .bs s true, .slice (some a) len cap => a.spot = none → ∀ q, len ≤ q → q < cap → G a.block (a.off + q) = t
  | .sl sz n el true, .slice (some a) len cap => a.spot = none → ∀ q, len * sz ≤ q → q < cap * sz → G a.block (a.off + q) = t
  | _, _ => True
def SpV (G : Gh) (t : Nat → Own) : AV → Value → Prop
  | .tup vs, .tuple ws => ∀ c x y, vs[c]? = some x → ws[c]? = some y → Sp G (t c) x y
  | x, y => Sp G (t 0) x y

/-- package variables of which the cells are known and never written -/
class Tab where
  k : Nat → Option (Array Value)
variable [Tab]
def TabOK (G : Gh) (w : World) : Prop := ∀ b cs, Tab.k b = some cs → (∃ e fz, w.heap[b]? = some (.cells cs e fz)) ∧ ∀ o, G b o = .frz ∨ G b o = .ctx
structure WI (G : Gh) (w : World) : Prop where
  own : ∀ b o, (G b o).mine = true → (w.cell? (mkA b o)).isSome = true ∧ w.frozen? (mkA b o) = false
  old : ∀ b o, w.heap.size ≤ b → G b o = .free
  one : ∀ b o v, (G b o = .frz ∨ (G b o).mine = true) → w.cell? (mkA b o) = some v → v.oneCell' = true
  tab : TabOK G w
def FR (G : Gh) (w : World) (ρ : List Nat) (fr : Fr) (tmps : Array Value) : Prop :=
  ∀ i, VR G w ρ (fr i) (tmps.getD i undef) ∧ SpV G (.slot i) (fr i) (tmps.getD i undef)
structure BR (G : Gh) (w : World) (ρ : List Nat) (H : Heap) : Prop where
  len : H.length = ρ.length
  cell : ∀ id b blk j c, ρ[id]? = some b → H[id]? = some blk → blk[j]? = some c →
    G b j = .cell id ∧ ∃ v, w.cell? (mkA b j) = some v ∧ VR G w ρ c v ∧ Sp G (.spare id j) c v
structure Inv (G : Gh) (w : World) (ρ : List Nat) (n : Nat) (fr : Fr) (H : Heap) (tmps : Array Value) : Prop where
  size : tmps.size = n
  fr : FR G w ρ fr tmps
  br : BR G w ρ H
  wi : WI G w
structure Trans (G : Gh) (w : World) (G' : Gh) (w' : World) : Prop where
  os : w'.os = w.os
  tape : w'.tape = w.tape
  output : w'.output = w.output
  size : w.heap.size ≤ w'.heap.size
  frz : ∀ b o, G b o = .frz → G' b o = .frz
  ctx : ∀ b o, G b o = .ctx → G' b o = .ctx
  cell : ∀ b o, G b o = .frz ∨ G b o = .ctx → w'.cell? (mkA b o) = w.cell? (mkA b o) ∧ w'.frozen? (mkA b o) = w.frozen? (mkA b o)
  blk : ∀ b, b < w.heap.size → (∀ o, G b o = .frz ∨ G b o = .ctx) → w'.heap[b]? = w.heap[b]?
  fz : ∀ b o, G b o ≠ .frz → G' b o = .frz → w'.frozen? (mkA b o) = false

theorem Trans.refl (G : Gh) (w : World) : Trans G w G w :=
  ⟨rfl, rfl, rfl, Nat.le_refl _, fun _ _ h => h, fun _ _ h => h, fun _ _ _ => ⟨rfl, rfl⟩, fun _ _ _ => rfl, fun _ _ h1 h2 => absurd h2 h1⟩
theorem Trans.trans {G w G1 w1 G2 w2} (h : Trans G w G1 w1) (k : Trans G1 w1 G2 w2) : Trans G w G2 w2 where
  os := k.os.trans h.os
  tape := k.tape.trans h.tape
  output := k.output.trans h.output
  size := Nat.le_trans h.size k.size
  frz b o e := k.frz b o (h.frz b o e)
  ctx b o e := k.ctx b o (h.ctx b o e)
  cell b o e := by
    have h1 := h.cell b o e
    have h2 := k.cell b o (e.imp (h.frz b o) (h.ctx b o))
    exact ⟨h2.1.trans h1.1, h2.2.trans h1.2⟩
  blk b hb e := (k.blk b (Nat.lt_of_lt_of_le hb h.size) fun o => (e o).imp (h.frz b o) (h.ctx b o)).trans (h.blk b hb e)
  fz b o e1 e2 := by
    by_cases h1 : G1 b o = .frz
    · rw [(k.cell b o (.inl h1)).2]; exact h.fz b o e1 h1
    · exact k.fz b o h1 e2

theorem TabOK.trans {G w G' w'} (h : Trans G w G' w') (k : TabOK G w) : TabOK G' w' := fun b cs e => by
  obtain ⟨⟨el, fz, h1⟩, h2⟩ := k b cs e
  have hb : b < w.heap.size := (Array.getElem?_eq_some_iff.1 h1).1
  exact ⟨⟨el, fz, by rw [h.blk b hb h2]; exact h1⟩, fun o => (h2 o).imp (h.frz b o) (h.ctx b o)⟩
/-- what pure values hang on -/
def Keeps (G : Gh) (w : World) (G' : Gh) (w' : World) : Prop :=
  ∀ b o, G b o = .frz → G' b o = .frz ∧ w'.cell? (mkA b o) = w.cell? (mkA b o)
theorem Trans.keeps {G w G' w'} (h : Trans G w G' w') : Keeps G w G' w' := fun b o e => ⟨h.frz b o e, (h.cell b o (.inl e)).1⟩
theorem Keeps.refl (G : Gh) (w : World) : Keeps G w G w := fun _ _ e => ⟨e, rfl⟩
theorem VR.keep {G w G' w'} (k : Keeps G w G' w') {ρ a v} (h : VR G w ρ a v) : VR G' w' ρ a v := by
  induction h with
  | int => exact .int ..
  | bool => exact .bool ..
  | str => exact .str ..
  | sl ρ sz n el own base cap vs hn hb hsz hc hv ih =>
    exact .sl _ _ _ _ _ _ _ vs hn hb hsz (fun b o e q hq => by
      have := hc b o e q hq
      have h2 := k b _ this.1
      exact ⟨h2.1, h2.2.trans this.2⟩) ih
  | bs ρ s own v h ih => exact .bs _ _ _ _ ih
  | hs ρ id off len cap b h => exact .hs _ _ _ _ _ _ h
  | ptr ρ id off b h => exact .ptr _ _ _ _ h
  | nilp => exact .nilp _
  | cptr ρ v b o vs hc hv ih =>
    exact .cptr _ _ _ _ vs (fun q hq => by
      have := hc q hq
      have h2 := k b _ this.1
      exact ⟨h2.1, h2.2.trans this.2⟩) ih
  | fn ρ f cap vs hl hv ih => exact .fn _ _ _ vs hl ih
  | bfn ρ g r v h ih => exact .bfn _ _ _ _ ih
  | nilfn => exact .nilfn _
  | nilsl => exact .nilsl _
  | iface ρ t v x h ih => exact .iface _ _ _ _ ih
  | nili => exact .nili _
  | agg ρ cs vs hl hv ih => exact .agg _ _ vs hl ih
  | tup ρ cs vs hl hv ih => exact .tup _ _ vs hl ih
  | bad => exact .bad _ _
/-- other numbers of the blocks -/
theorem VR.ren {G w ρ a v} (h : VR G w ρ a v) : ∀ {ρ' : List Nat}, (∀ (id : Nat) (b : Nat), ρ[id]? = some b → ρ'[id]? = some b) → VR G w ρ' a v := by
  induction h with
  | int => exact fun _ => .int ..
  | bool => exact fun _ => .bool ..
  | str => exact fun _ => .str ..
  | sl ρ sz n el own base cap vs hn hb hsz hc hv ih => exact fun _ => .sl _ _ _ _ _ _ _ vs hn hb hsz hc hv
  | bs ρ s own v h ih => exact fun _ => .bs _ _ _ _ h
  | hs ρ id off len cap b h => exact fun k => .hs _ _ _ _ _ _ (k _ _ h)
  | ptr ρ id off b h => exact fun k => .ptr _ _ _ _ (k _ _ h)
  | nilp => exact fun _ => .nilp _
  | cptr ρ v b o vs hc hv ih => exact fun _ => .cptr _ _ _ _ vs hc hv
  | fn ρ f cap vs hl hv ih => exact fun k => .fn _ _ _ vs hl fun q c v h1 h2 => ih q c v h1 h2 k
  | bfn ρ g r v h ih => exact fun k => .bfn _ _ _ _ (ih k)
  | nilfn => exact fun _ => .nilfn _
  | nilsl => exact fun _ => .nilsl _
  | iface ρ t v x h ih => exact fun k => .iface _ _ _ _ (ih k)
  | nili => exact fun _ => .nili _
  | agg ρ cs vs hl hv ih => exact fun k => .agg _ _ vs hl fun q c v h1 h2 => ih q c v h1 h2 k
  | tup ρ cs vs hl hv ih => exact fun k => .tup _ _ vs hl fun q c v h1 h2 => ih q c v h1 h2 k
  | bad => exact fun _ => .bad _ _
theorem VR.of_nil {G w ρ a v} (h : VR G w [] a v) : VR G w ρ a v := h.ren (fun _ _ h => by simp at h)
theorem VR.app {G w ρ ρ2 a v} (h : VR G w ρ a v) : VR G w (ρ ++ ρ2) a v := h.ren (fun id b h => by
  have : id < ρ.length := (List.getElem?_eq_some_iff.1 h).1
  rw [List.getElem?_append_left this]; exact h)
end Go.Am
set_option linter.unusedSectionVars false
set_option linter.unusedVariables false
namespace Go.Am
open Go
variable [Tab]

def un1 : AV → AV
  | .bs s _ => .bs s false
  | .sl sz n el _ => .sl sz n el false
  | v => v
def un : AV → AV
  | .tup vs => .tup (vs.map un1)
  | v => un1 v
theorem VR.un1 {G w ρ a v} (h : VR G w ρ a v) : VR G w ρ (un1 a) v := by
  cases h with
  | sl ρ sz n el own base cap vs hn hb hsz hc hv => exact .sl _ _ _ _ _ _ _ vs hn hb hsz hc hv
  | bs ρ s own v h =>
    refine .bs _ _ _ _ ?_
    cases h with
    | sl ρ sz n el own base cap vs hn hb hsz hc hv => exact .sl _ _ _ _ _ _ _ vs hn hb hsz hc hv
  | tup ρ cs vs hl hv => exact .tup _ _ vs hl hv
  | int => exact .int ..
  | bool => exact .bool ..
  | str => exact .str ..
  | hs ρ id off len cap b h => exact .hs _ _ _ _ _ _ h
  | ptr ρ id off b h => exact .ptr _ _ _ _ h
  | nilp => exact .nilp _
  | cptr ρ v b o vs hc hv => exact .cptr _ _ _ _ vs hc hv
  | fn ρ f cap vs hl hv => exact .fn _ _ _ vs hl hv
  | bfn ρ g r v h => exact .bfn _ _ _ _ h
  | nilfn => exact .nilfn _
  | nilsl => exact .nilsl _
  | iface ρ t v x h => exact .iface _ _ _ _ h
  | nili => exact .nili _
  | agg ρ cs vs hl hv => exact .agg _ _ vs hl hv
  | bad => exact .bad _ _
theorem VR.un {G w ρ a v} (h : VR G w ρ a v) : VR G w ρ (un a) v := by
  cases a with
  | tup cs =>
    cases h with
    | tup ρ cs vs hl hv =>
      refine .tup _ _ vs (by simpa using hl) ?_
      intro q c v h1 h2
      rw [List.getElem?_map, Option.map_eq_some_iff] at h1
      obtain ⟨x, h1, rfl⟩ := h1
      exact (hv q x v h1 h2).un1
  | _ => exact VR.un1 h
theorem Sp_un1 (G t a v) : Sp G t (un1 a) v := by cases a <;> simp [Am.un1, Sp]
theorem SpV_of_Sp {G : Gh} {t : Nat → Own} {a : AV} {v : Value} (h : Sp G (t 0) a v) (ht : ∀ vs, a ≠ .tup vs) : SpV G t a v := by
  cases a <;> first | exact h | exact absurd rfl (ht _)
theorem SpV_un (G : Gh) (t : Nat → Own) (a : AV) (v : Value) : SpV G t (un a) v := by
  cases a with
  | tup vs =>
    cases v <;> try (simp [Am.un, SpV, Sp]; done)
    intro c x y h1 h2
    simp only [List.getElem?_map, Option.map_eq_some_iff] at h1
    obtain ⟨z, _, rfl⟩ := h1
    exact Sp_un1 ..
  | bs => simp [Am.un, Am.un1, SpV, Sp]
  | sl => simp [Am.un, Am.un1, SpV, Sp]
  | _ => simp [Am.un, Am.un1, SpV, Sp]

def nilSl (P : Program) (t : TypeId) : AV :=
  match P.underlying t with
  | some (.slice e) => match P.underlying e with
    | some (.int .u8) => .bs [] true
    | _ => .sl (P.cellsOf e) 0 (fun _ => .bad) true
  | _ => .bad
def ofVal (P : Program) (t : TypeId) : Value → AV
  | .int k n => .int k n
  | .bool b => .bool b
  | .string ⟨⟨l⟩⟩ => .str l
  | .pointer none => .nilp
  | .nilIface => .nili
  | .nilFunc => .nilfn
  | .slice none 0 0 => nilSl P t
  | _ => .bad
def opd (P : Program) (t : TypeId) (fr : Fr) : Operand → AV
  | .tmp i => fr i
  | .const v => ofVal P t v
  | .func f => .fn (.func f) []
  | .global _ => .bad
theorem VR.nilSl (P : Program) (t : TypeId) (G : Gh) (w : World) (ρ : List Nat) : VR G w ρ (nilSl P t) (.slice none 0 0) := by
  unfold Am.nilSl
  split
  · split
    · exact .bs _ _ _ _ (.sl _ _ _ _ _ none 0 (fun _ => undef) (Nat.le_refl _) (fun _ => rfl) (fun i h => absurd h (Nat.not_lt_zero _)) (fun b o h => by simp at h) (fun i j c h => absurd h (Nat.not_lt_zero _)))
    · exact .sl _ _ _ _ _ none 0 (fun _ => undef) (Nat.le_refl _) (fun _ => rfl) (fun i h => absurd h (Nat.not_lt_zero _)) (fun b o h => by simp at h) (fun i j c h => absurd h (Nat.not_lt_zero _))
  · exact .bad ..
theorem VR.ofVal (P : Program) (t : TypeId) (G : Gh) (w : World) (ρ : List Nat) (v : Value) : VR G w ρ (ofVal P t v) v := by
  unfold Am.ofVal
  split
  · exact .int ..
  · exact .bool ..
  · rename_i l; have := VR.str (G := G) (w := w) ρ l; simpa using this
  · exact .nilp _
  · exact .nili _
  · exact .nilfn _
  · exact VR.nilSl ..
  · exact .bad ..
theorem Sp_none (G t a l c) : Sp G t a (.slice none l c) := by
  unfold Sp; split <;> simp_all
theorem SpV_ofVal (P : Program) (t : TypeId) (G : Gh) (T : Nat → Own) (v : Value) : SpV G T (ofVal P t v) v := by
  unfold Am.ofVal
  split <;> simp [SpV, Sp]
theorem VR.opd {P : Program} {t : TypeId} {G : Gh} {w : World} {ρ : List Nat} {fr : Fr} {a : Act} (h : FR G w ρ fr a.tmps) (x : Operand) : VR G w ρ (opd P t fr x) (a.eval x) := by
  cases x with
  | tmp i => exact (h i).1
  | const v => exact VR.ofVal ..
  | func f => exact .fn _ _ _ [] rfl (fun q c v h => by simp at h)
  | global g => exact .bad ..

/-- what a function leaves -/
def Post (k0 : Nat) (G : Gh) (w : World) (ρ : List Nat) (res : AV) (H' : Heap) (v : Value) (w' : World) (G' : Gh) (ρ' : List Nat) : Prop :=
  Trans G w G' w' ∧ WI G' w' ∧ ρ'.take k0 = ρ.take k0 ∧ BR G' w' ρ' H' ∧ VR G' w' ρ' res v ∧ SpV G' .res res v
/-- 'k0': so many blocks are the caller's -/
def Runs (P : Program) (f : FuncId) (n k0 : Nat) (S : List Item) (fr : Fr) (H : Heap) (res : AV) (H' : Heap) : Prop :=
  ∀ (b : Frame) (a : Act) (w : World) (G : Gh) (ρ : List Nat), b.fn = f → b.kind = .normal → a.defers = [] → k0 ≤ ρ.length → Inv G w ρ n fr H a.tmps →
    ∀ cs, ∃ v w' G' ρ' frm, Steps P (lone (b.at a S) cs w) (lone frm cs w') ∧ frm.fn = f ∧ frm.leaving P w' (.returned v) ∧ Post k0 G w ρ res H' v w' G' ρ'
/-- a function's contract -/
def FnOK (P : Program) (f : FuncId) (args : List AV) (H : Heap) (res : AV) (H' : Heap) : Prop :=
  ∀ (w : World) (G : Gh) (ρ : List Nat) (vs : List Value), vs.length = args.length →
    (∀ i c v, args[i]? = some c → vs[i]? = some v → VR G w ρ c v ∧ SpV G (.slot i) c v) → BR G w ρ H → WI G w →
    Calls P f vs.toArray w fun e w' => ∃ v G' ρ', e = .returned v ∧ Post H.length G w ρ res H' v w' G' ρ'

variable {P : Program} {f : FuncId} {n k0 : Nat} {S : List Item} {fr : Fr} {H : Heap} {res : AV} {H' : Heap}
theorem Runs.silent {S' : List Item} (hs : ∀ (b : Frame) (a : Act) cs w, step P (lone (b.at a S) cs w) = .next (lone (b.at a S') cs w))
    (h : Runs P f n k0 S' fr H res H') : Runs P f n k0 S fr H res H' := by
  intro b a w G ρ h1 h2 h3 hk h4 cs
  obtain ⟨v, w', G', ρ', frm, hst, hr⟩ := h b a w G ρ h1 h2 h3 hk h4 cs
  exact ⟨v, w', G', ρ', frm, .head (hs b a cs w) hst, hr⟩
theorem Runs.skip (h : Runs P f n k0 S fr H res H') : Runs P f n k0 (.code .skip :: S) fr H res H' := h.silent fun _ _ _ _ => step_skip
theorem Runs.seq {x y : Code} (h : Runs P f n k0 (.code x :: .code y :: S) fr H res H') : Runs P f n k0 (.code (.seq x y) :: S) fr H res H' := h.silent fun _ _ _ _ => step_seq
theorem Runs.block {id : Nat} {c : Code} (h : Runs P f n k0 (.code c :: .inBlock id :: S) fr H res H') : Runs P f n k0 (.code (.block id c) :: S) fr H res H' := h.silent fun _ _ _ _ => step_block
theorem Runs.inBlock {id : Nat} (h : Runs P f n k0 S fr H res H') : Runs P f n k0 (.inBlock id :: S) fr H res H' := h.silent fun _ _ _ _ => step_inBlock
theorem Runs.exit {id : Nat} {S' : List Item} (e : exitTo id S = some S') (h : Runs P f n k0 S' fr H res H') : Runs P f n k0 (.code (.exit id) :: S) fr H res H' := h.silent fun _ _ _ _ => step_exit e
theorem Runs.inLoop {c : Code} (h : Runs P f n k0 (.code c :: .inLoop c :: S) fr H res H') : Runs P f n k0 (.inLoop c :: S) fr H res H' := h.silent fun _ _ _ _ => step_inLoop
theorem Runs.loop {c : Code} (h : Runs P f n k0 (.inLoop c :: S) fr H res H') : Runs P f n k0 (.code (.loop c) :: S) fr H res H' := by
  intro b a w G ρ h1 h2 h3 hk h4 cs
  obtain ⟨v, w', G', ρ', frm, ⟨k, hst⟩, hr⟩ := h b a w G ρ h1 h2 h3 hk h4 cs
  refine ⟨v, w', G', ρ', frm, ?_, hr⟩
  cases k with
  | zero =>
    simp only [runN, Stepped.next.injEq] at hst
    have hm := congrArg (fun m => (m.gs[0]?).map fun g => g.frame.mode) hst
    have hl := hr.2.1.1
    simp [lone, Frame.at] at hm
    rw [← hm] at hl
    cases hl
  | succ k =>
    simp only [runN, step_inLoop] at hst
    exact .head step_loop ⟨k, hst⟩
theorem Runs.region {id : Nat} {ops : Array Oper} (h : Runs P f n k0 (.inRegion ops (List.range ops.size) :: S) fr H res H') : Runs P f n k0 (.code (.region id ops false) :: S) fr H res H' := h.silent fun _ _ _ _ => step_region
theorem Runs.regionEnd {ops : Array Oper} (h : Runs P f n k0 S fr H res H') : Runs P f n k0 (.inRegion ops [] :: S) fr H res H' := h.silent fun _ _ _ _ => step_region_end
/-- which way -/
def gd (g : Bool) (A B : Prop) : Prop := match g with | true => A | false => B
theorem gd_split {g : Bool} {A B : Prop} (ha : g = true → A) (hb : g = false → B) : gd g A B := by
  cases g
  · exact hb rfl
  · exact ha rfl
theorem Runs.cond {c : Operand} {x y : Code} {g : Bool} (hc : opd P 0 fr c = .bool g)
    (h : gd g (Runs P f n k0 (.code x :: S) fr H res H') (Runs P f n k0 (.code y :: S) fr H res H')) : Runs P f n k0 (.code (.cond c x y) :: S) fr H res H' := by
  intro b a w G ρ h1 h2 h3 hk h4 cs
  have hv := VR.opd (P := P) (t := 0) h4.fr c
  rw [hc] at hv
  generalize hx : a.eval c = x at hv
  cases hv
  have hst := step_cond (P := P) (b := b) (k := S) (cs := cs) (w := w) (x := x) (y := y) hx
  cases g with
  | true =>
    obtain ⟨v, w', G', ρ', frm, hs, hr⟩ := h b a w G ρ h1 h2 h3 hk h4 cs
    exact ⟨v, w', G', ρ', frm, .head hst hs, hr⟩
  | false =>
    obtain ⟨v, w', G', ρ', frm, hs, hr⟩ := h b a w G ρ h1 h2 h3 hk h4 cs
    exact ⟨v, w', G', ρ', frm, .head hst hs, hr⟩
/-- a loop, by a relation and a measure -/
theorem Runs.loopI {c : Code} {σ : Type} (Pre : σ → Fr → Heap → Prop) (μ : σ → Nat)
    (round : ∀ s fr H, Pre s fr H → (∀ s' fr' H1, μ s' < μ s → Pre s' fr' H1 → Runs P f n k0 (.inLoop c :: S) fr' H1 res H') → Runs P f n k0 (.code c :: .inLoop c :: S) fr H res H')
    (s : σ) (h : Pre s fr H) : Runs P f n k0 (.code (.loop c) :: S) fr H res H' := by
  refine Runs.loop ?_
  have key : ∀ m s fr H, μ s = m → Pre s fr H → Runs P f n k0 (.inLoop c :: S) fr H res H' := by
    intro m
    induction m using Nat.strongRecOn with
    | _ m ih => exact fun s fr H hm hp => Runs.inLoop (round s fr H hp fun s' fr' H1 hlt hp' => ih _ (hm ▸ hlt) s' fr' H1 rfl hp')
  exact key _ s fr H rfl h
/-- from the code of a function to its contract -/
theorem FnOK.of_runs {args : List AV} {fn : Func} {c : Code} (hf : P.funcs[f]? = some fn) (hb : fn.body = some c) (hn : args.length ≤ fn.ntmps)
    (h : Runs P f fn.ntmps H.length [.code c] (fun i => args.getD i .bad) H res H') : FnOK P f args H res H' := by
  intro w G ρ vs hl hargs hbr hwi cs
  let b : Frame := { (default : Frame) with fn := f, kind := .normal }
  have henter : Frame.enter P f vs.toArray .normal =
      b.at { tmps := vs.toArray ++ Array.replicate (fn.ntmps - vs.toArray.size) undef, defers := [] } [.code c] := by
    simp [Frame.enter, Frame.at, hf, hb, b]
  obtain ⟨v, w', G', ρ', frm, hst, h1, h2, h3⟩ := h b { tmps := vs.toArray ++ Array.replicate (fn.ntmps - vs.toArray.size) undef, defers := [] } w G ρ rfl rfl rfl (by rw [hbr.len]; exact Nat.le_refl _)
    ⟨by simp; omega, fun i => by
      have e : (vs.toArray ++ Array.replicate (fn.ntmps - vs.toArray.size) undef).getD i undef = vs.getD i undef := by
        simp only [Array.getD_eq_getD_getElem?, List.getD_eq_getElem?_getD]
        rcases Nat.lt_or_ge i vs.length with h | h
        · rw [Array.getElem?_append_left (by simpa using h)]; simp
        · rw [Array.getElem?_append_right (by simpa using h), List.getElem?_eq_none h]
          simp only [Array.getElem?_replicate]
          split <;> rfl
      rw [e]
      rcases Nat.lt_or_ge i args.length with hi | hi
      · have := hargs i args[i] (vs[i]'(by omega)) (List.getElem?_eq_getElem hi) (List.getElem?_eq_getElem (by omega))
        simpa [List.getD_eq_getElem?_getD, List.getElem?_eq_getElem hi, List.getElem?_eq_getElem (show i < vs.length by omega)] using this
      · simp only [List.getD_eq_getElem?_getD, List.getElem?_eq_none hi, Option.getD_none]
        exact ⟨.bad .., by simp [SpV, Sp]⟩, hbr, hwi⟩ cs
  rw [← henter] at hst
  exact ⟨.returned v, w', frm, ⟨v, G', ρ', rfl, h3⟩, hst, h1, h2⟩
end Go.Am
set_option linter.unusedSectionVars false
set_option linter.unusedVariables false
namespace Go.Am
open Go
variable [Tab]

structure InvV (G : Gh) (w : World) (ρ : List Nat) (n : Nat) (fr : Fr) (H : Heap) (tmps : Array Value) (v : AV) (v' : Value) : Prop where
  inv : Inv G w ρ n fr H tmps
  vr : VR G w ρ v v'
  sp : SpV G .res v v'

theorem Sp.map {G G' : Gh} {t t' : Own} {a : AV} {v : Value} (hm : ∀ b o, G b o = t → G' b o = t') (h : Sp G t a v) : Sp G' t' a v := by
  unfold Sp at *
  split <;> simp_all
theorem SpV.map {G G' : Gh} {t t' : Nat → Own} {a : AV} {v : Value} (hm : ∀ c b o, G b o = t c → G' b o = t' c) (h : SpV G t a v) : SpV G' t' a v := by
  unfold SpV at *
  split
  · rename_i vs ws
    exact fun c x y h1 h2 => (h c x y h1 h2).map (hm c)
  · rename_i hx
    split at h
    · exact absurd rfl (hx _ _ rfl)
    · exact h.map (hm 0)
/-- the pending value goes into a slot (or nowhere) -/
def putG (G : Gh) (d : Option Nat) : Gh := fun b o => match G b o with
  | .res c => (match d with | some d => .slot d c | none => .free)
  | .slot i c => if some i = d then .free else .slot i c
  | x => x
def putF (fr : Fr) (d : Option Nat) (v : AV) : Fr := match d with | some d => fr.set d v | none => fr
theorem putG_frz {G d b o} : putG G d b o = .frz ↔ G b o = .frz := by
  unfold putG; split <;> (try split) <;> simp_all
theorem putG_ctx {G d b o} : putG G d b o = .ctx ↔ G b o = .ctx := by
  unfold putG; split <;> (try split) <;> simp_all
theorem putG_keeps (G : Gh) (w : World) (d) : Keeps G w (putG G d) w := fun b o h => ⟨putG_frz.2 h, rfl⟩
theorem putG_trans (G : Gh) (w : World) (d) : Trans G w (putG G d) w :=
  ⟨rfl, rfl, rfl, Nat.le_refl _, fun _ _ h => putG_frz.2 h, fun _ _ h => putG_ctx.2 h, fun _ _ _ => ⟨rfl, rfl⟩, fun _ _ _ => rfl, fun _ _ e1 e2 => absurd (putG_frz.1 e2) e1⟩
theorem putG_mine {G d b o} (h : (putG G d b o).mine = true) : (G b o).mine = true := by
  unfold putG at h; split at h <;> simp_all [Own.mine]
theorem WI.put {G w} (h : WI G w) (d) : WI (putG G d) w :=
  ⟨fun b o e => h.own b o (putG_mine e), fun b o e => by have := h.old b o e; unfold putG; rw [this],
    fun b o v e => h.one b o v (e.imp putG_frz.1 putG_mine), h.tab.trans (putG_trans G w d)⟩
theorem BR.put {G w ρ H} (h : BR G w ρ H) (d) : BR (putG G d) w ρ H :=
  ⟨h.len, fun id b blk j c h1 h2 h3 => by
    obtain ⟨e, v, hc, hv, hs⟩ := h.cell id b blk j c h1 h2 h3
    refine ⟨by unfold putG; rw [e], v, hc, hv.keep (putG_keeps _ _ _), hs.map fun b o e => by unfold putG; rw [e]⟩⟩
theorem FR.put {G w ρ fr tmps n} (h : FR G w ρ fr tmps) (hn : tmps.size = n) {v v'} (hv : VR G w ρ v v') (hs : SpV G .res v v') (d : Option Nat) (hd : ∀ i, d = some i → i < n) :
    FR (putG G d) w ρ (putF fr d v) (match d with | some d => tmps.setIfInBounds d v' | none => tmps) := by
  intro i
  have hi := h i
  cases d with
  | none =>
    exact ⟨hi.1.keep (putG_keeps _ _ _), hi.2.map fun c b o e => by unfold putG; rw [e]; simp⟩
  | some d =>
    have hdn := hd d rfl
    simp only [putF, Fr.set]
    by_cases hid : i = d
    · subst hid
      rw [show Nat.beq i i = true from Nat.beq_refl i]
      have e : (tmps.setIfInBounds i v').getD i undef = v' := by simp [Array.getD_eq_getD_getElem?, hn, hdn]
      simp only [cond_true, e]
      exact ⟨hv.keep (putG_keeps _ _ _), hs.map fun c b o e => by unfold putG; rw [e]⟩
    · have hb : Nat.beq i d = false := by
        cases hq : Nat.beq i d with
        | true => exact absurd (Nat.eq_of_beq_eq_true hq) hid
        | false => rfl
      rw [hb]
      have e : (tmps.setIfInBounds d v').getD i undef = tmps.getD i undef := by
        simp only [Array.getD_eq_getD_getElem?]; rw [Array.getElem?_setIfInBounds_ne (fun h => hid h.symm)]
      simp only [cond_false, e]
      exact ⟨hi.1.keep (putG_keeps _ _ _), hi.2.map fun c b o e => by unfold putG; rw [e]; simp [hid]⟩
theorem InvV.put {G w ρ n fr H v v'} {a : Act} (h : InvV G w ρ n fr H a.tmps v v') (d : Option Nat) (hd : ∀ i, d = some i → i < n) :
    Inv (putG G d) w ρ n (putF fr d v) H (a.put d v').tmps := by
  have hf := h.inv.fr.put h.inv.size h.vr h.sp d hd
  refine ⟨?_, ?_, h.inv.br.put d, h.inv.wi.put d⟩
  · cases d <;> simp [Act.put, h.inv.size]
  · cases d <;> exact hf

def OpSem (P : Program) (o : Oper) (fr : Fr) (H : Heap) (v : AV) (fr1 : Fr) (H1 : Heap) : Prop :=
  ∀ (b : Frame) (a : Act) (w : World) (G : Gh) (ρ : List Nat) (n : Nat) (ops : Array Oper) (i : Nat) (rest : List Nat) (k : List Item) (cs : List Frame),
    ops[i]? = some o → Region.wanted o (yielded ops a.tmps) = true → Inv G w ρ n fr H a.tmps →
    ∃ v' w' G' ρ2, Steps P (lone (b.at a (.inRegion ops (i :: rest) :: k)) cs w) (lone (b.at (a.put o.dst v') (.inRegion ops rest :: k)) cs w') ∧
      Trans G w G' w' ∧ InvV G' w' (ρ ++ ρ2) n fr1 H1 a.tmps v v'
/-- is the operation run? -/
def gOK (ops : Array Oper) (fr : Fr) (o : Oper) : Option Bool :=
  match o.guard with
  | none => some true
  | some (j, want) => match (ops[j]?).bind (·.dst) with
    | some s => match fr s with
      | .bool true => some want
      | .bool false => some (!want)
      | .tup _ => some false
      | _ => none
    | none => none
theorem gOK_wanted {ops : Array Oper} {fr : Fr} {o : Oper} {r : Bool} {G w ρ tmps} (h : gOK ops fr o = some r) (hf : FR G w ρ fr tmps) : Region.wanted o (yielded ops tmps) = r := by
  unfold gOK at h
  unfold Region.wanted
  split at h
  · rename_i e; rw [e]; simpa using h
  · rename_i j want e
    rw [e]
    simp only
    split at h
    · rename_i s hs
      have hv := (hf s).1
      have hy : ∀ g, fr s = .bool g → yielded ops tmps j = some g := by
        intro g hg
        rw [hg] at hv
        generalize hx : tmps.getD s undef = x at hv
        cases hv
        have : tmps[s]? = some (.bool g) := by
          rw [Array.getD_eq_getD_getElem?] at hx
          cases hq : tmps[s]? with
          | none => rw [hq] at hx; simp [undef] at hx
          | some y => rw [hq] at hx; simp at hx; rw [hx]
        simp [yielded, hs, this]
      split at h
      · rename_i e2; rw [hy _ e2]; cases want <;> simp_all
      · rename_i e2; rw [hy _ e2]; cases want <;> simp_all
      · rename_i cs e2
        rw [e2] at hv
        generalize hx : tmps.getD s undef = x at hv
        cases hv
        have : yielded ops tmps j = none := by
          rw [Array.getD_eq_getD_getElem?] at hx
          cases hq : tmps[s]? with
          | none => simp [yielded, hs, hq]
          | some y => rw [hq] at hx; simp at hx; subst hx; simp [yielded, hs, hq]
        rw [this]
        cases want <;> simp_all
      · simp at h
    · simp at h

variable {P : Program} {f : FuncId} {n k0 : Nat} {S : List Item} {fr fr1 : Fr} {H H1 : Heap} {res : AV} {H' : Heap} {ops : Array Oper} {o : Oper} {i : Nat} {rest : List Nat} {v : AV}
theorem Runs.op (ho : ops[i]? = some o) (hg : gOK ops fr o = some true) (hd : (match o.dst with | some d => Nat.blt d n | none => true) = true) (hs : OpSem P o fr H v fr1 H1)
    (hk : Runs P f n k0 (.inRegion ops rest :: S) (putF fr1 o.dst v) H1 res H') : Runs P f n k0 (.inRegion ops (i :: rest) :: S) fr H res H' := by
  intro b a w G ρ h1 h2 h3 hkk h4 cs
  obtain ⟨v', w', G', ρ2, hst, htr, hiv⟩ := hs b a w G ρ n ops i rest S cs ho (gOK_wanted hg h4.fr) h4
  have hp := hiv.put o.dst (fun d e => by rw [e] at hd; simp [Nat.blt] at hd; omega)
  obtain ⟨v2, w2, G2, ρ3, frm, hst2, e1, e2, ht, hw, hρ, hr⟩ := hk b (a.put o.dst v') w' _ _ h1 h2 (by cases o.dst <;> exact h3) (by simp; omega) hp cs
  exact ⟨v2, w2, G2, ρ3, frm, hst.trans hst2, e1, e2, (htr.trans (putG_trans ..)).trans ht, hw, by rw [hρ, List.take_append_of_le_length hkk], hr⟩
theorem Runs.opSkip (ho : ops[i]? = some o) (hg : gOK ops fr o = some false) (hd : (match o.dst with | some d => Nat.blt d n | none => true) = true)
    (hk : Runs P f n k0 (.inRegion ops rest :: S) (putF fr o.dst (.tup [])) H res H') : Runs P f n k0 (.inRegion ops (i :: rest) :: S) fr H res H' := by
  intro b a w G ρ h1 h2 h3 hkk h4 cs
  have hw := gOK_wanted hg h4.fr
  have hst := step_op_skip (P := P) (b := b) (a := a) (k := S) (cs := cs) (w := w) (ops := ops) (i := i) (rest := rest) (by simp [ho, hw])
  simp only [ho, Option.bind_some] at hst
  have hiv : InvV G w ρ n fr H a.tmps (.tup []) undef := ⟨h4, .tup _ _ [] rfl (by simp), by simp [SpV, undef]⟩
  have hp := hiv.put o.dst (fun d e => by rw [e] at hd; simp [Nat.blt] at hd; omega)
  obtain ⟨v2, w2, G2, ρ3, frm, hst2, e1, e2, ht, hr⟩ := hk b (a.put o.dst undef) w _ _ h1 h2 (by cases o.dst <;> exact h3) hkk hp cs
  exact ⟨v2, w2, G2, ρ3, frm, .head hst hst2, e1, e2, (putG_trans ..).trans ht, hr⟩
/-- a slot's bool, split -/
theorem Runs.split (s : Nat) {g : Bool} (hs : fr s = .bool g) (h : gd g (Runs P f n k0 S (fr.set s (.bool true)) H res H') (Runs P f n k0 S (fr.set s (.bool false)) H res H')) : Runs P f n k0 S fr H res H' := by
  have e : fr.set s (.bool g) = fr := by
    funext i
    unfold Fr.set
    cases hq : Nat.beq i s with
    | true => rw [Nat.eq_of_beq_eq_true hq]; exact hs.symm
    | false => rfl
  rw [← e]
  cases g <;> exact h
theorem step_value {b : Frame} {a : Act} {w w' : World} {k : List Item} {cs : List Frame} {v : Value} (ho : ops[i]? = some o) (hw : Region.wanted o (yielded ops a.tmps) = true)
    (hr : (execOp a.eval o).run P w = .ok (.value v) w') : step P (lone (b.at a (.inRegion ops (i :: rest) :: k)) cs w) = .next (lone (b.at (a.put o.dst v) (.inRegion ops rest :: k)) cs w') := by
  have hg := stepG_op (P := P) (b := b) (k := k) (cs := cs) (w := w) (rest := rest) ho hw
  have hfin : ∀ v, (b.at a (.inRegion ops (i :: rest) :: k)).finish v = b.at (a.put o.dst v) (.inRegion ops rest :: k) := by
    intro v; rw [Frame.finish_at, ho]; rfl
  refine step_lone_go ?_
  rw [hg, ← hfin]; simp [stepG.apply, hr]
theorem step_skipV {b : Frame} {a : Act} {w w' : World} {k : List Item} {cs : List Frame} (ho : ops[i]? = some o) (hw : Region.wanted o (yielded ops a.tmps) = true)
    (hr : (execOp a.eval o).run P w = .ok .skip w') : step P (lone (b.at a (.inRegion ops (i :: rest) :: k)) cs w) = .next (lone (b.at (a.put o.dst undef) (.inRegion ops rest :: k)) cs w') := by
  have hg := stepG_op (P := P) (b := b) (k := k) (cs := cs) (w := w) (rest := rest) ho hw
  have hfin : ∀ v, (b.at a (.inRegion ops (i :: rest) :: k)).finish v = b.at (a.put o.dst v) (.inRegion ops rest :: k) := by
    intro v; rw [Frame.finish_at, ho]; rfl
  refine step_lone_go ?_
  rw [hg, ← hfin]; simp [stepG.apply, hr]

/-- owns nothing -/
def nr1 : AV → Bool
  | .bs _ o => !o
  | .sl _ _ _ o => !o
  | _ => true
def nr : AV → Bool
  | .tup vs => vs.all nr1
  | v => nr1 v
theorem Sp_nr1 {G t a v} (h : nr1 a = true) : Sp G t a v := by
  unfold Sp; split <;> simp_all [nr1]
theorem SpV_nr {G t a v} (h : nr a = true) : SpV G t a v := by
  unfold SpV
  split
  · exact fun c x y h1 h2 => Sp_nr1 (by simp [nr] at h; exact h x (List.mem_of_getElem? h1))
  · refine Sp_nr1 ?_
    unfold nr at h
    split at h
    · simp [nr1]
    · exact h
theorem OpSem.same (h : ∀ (a : Act) w G ρ n, Inv G w ρ n fr H a.tmps → ∃ v', (execOp a.eval o).run P w = .ok (.value v') w ∧ VR G w ρ v v') (hn : ∀ G t x, SpV G t v x) : OpSem P o fr H v fr H := by
  intro b a w G ρ n ops i rest k cs ho hw hi
  obtain ⟨v', hr, hv⟩ := h a w G ρ n hi
  exact ⟨v', w, G, [], .one (step_value ho hw hr), Trans.refl _ _, by rw [List.append_nil]; exact ⟨hi, hv, hn ..⟩⟩
end Go.Am
set_option linter.unusedSectionVars false
set_option linter.unusedVariables false
set_option linter.unusedSimpArgs false
namespace Go.Am
open Go
variable [Tab]

def bitsE (op : BinOp) (k : IntKind) (x y : Int) : Int :=
  match op with
  | .and => k.wrap (BitVec.ofInt k.bits x &&& BitVec.ofInt k.bits y).toNat
  | .or => k.wrap (BitVec.ofInt k.bits x ||| BitVec.ofInt k.bits y).toNat
  | .xor => k.wrap (BitVec.ofInt k.bits x ^^^ BitVec.ofInt k.bits y).toNat
  | _ => k.wrap (BitVec.ofInt k.bits x &&& ~~~BitVec.ofInt k.bits y).toNat
def sameK (k k' : IntKind) : Bool := decide (k = k')
def intE (op : BinOp) (k : IntKind) (a b : Int) : Option (Prop × AV) :=
  match op with
  | .add => some (True, .int k (k.wrap (a + b)))
  | .sub => some (True, .int k (k.wrap (a - b)))
  | .mul => some (True, .int k (k.wrap (a * b)))
  | .quo => some (b ≠ 0, .int k (k.wrap (a.tdiv b)))
  | .rem => some (b ≠ 0, .int k (a.tmod b))
  | .and => some (True, .int k (bitsE .and k a b))
  | .or => some (True, .int k (bitsE .or k a b))
  | .xor => some (True, .int k (bitsE .xor k a b))
  | .andNot => some (True, .int k (bitsE .andNot k a b))
  | .eql => some (True, .bool (a == b))
  | .neq => some (True, .bool (a != b))
  | .lss => some (True, .bool (decide (a < b)))
  | .leq => some (True, .bool (decide (a ≤ b)))
  | .gtr => some (True, .bool (decide (b < a)))
  | .geq => some (True, .bool (decide (b ≤ a)))
  | .shl => some (0 ≤ b, .int k (k.wrap (a * 2 ^ (min b.toNat k.bits))))
  | .shr => some (0 ≤ b, .int k (a.fdiv (2 ^ (min b.toNat k.bits))))
def shiftE (op : BinOp) (k : IntKind) (a b : Int) : Option (Prop × AV) :=
  match op with
  | .shl => some (0 ≤ b, .int k (k.wrap (a * 2 ^ (min b.toNat k.bits))))
  | .shr => some (0 ≤ b, .int k (a.fdiv (2 ^ (min b.toNat k.bits))))
  | _ => none
def strE (op : BinOp) (a b : List UInt8) : Option (Prop × AV) :=
  match op with
  | .add => some (a.length + b.length ≤ 9223372036854775807, .str (a ++ b))
  | .eql => some (True, .bool (a == b))
  | .neq => some (True, .bool (!(a == b)))
  | .lss => some (True, .bool (Op.bytesLess a b))
  | .leq => some (True, .bool (Op.bytesLess a b || a == b))
  | .gtr => some (True, .bool (!(Op.bytesLess a b || a == b)))
  | .geq => some (True, .bool (!Op.bytesLess a b))
  | _ => none
def isC : Operand → Bool
  | .const _ => true
  | _ => false
/-- '==' of two values that aren't numbers or strings -/
def eqE (P : Program) (t : TypeId) (c : Bool) (x y : AV) : Option (Prop × Bool) :=
  match P.underlying t, x, y with
  | some .bool, .bool a, .bool b => some (True, a == b)
  | some (.pointer _), .nilp, .nilp => some (True, true)
  | some (.pointer _), .nilp, .ptr _ _ => some (True, false)
  | some (.pointer _), .nilp, .cptr _ => some (True, false)
  | some (.pointer _), .ptr _ _, .nilp => some (True, false)
  | some (.pointer _), .cptr _, .nilp => some (True, false)
  | some (.interface _), .nili, .nili => bif c then some (True, true) else none
  | some (.interface _), .nili, .iface _ _ => some (True, false)
  | some (.interface _), .iface _ _, .nili => some (True, false)
  | some (.interface _), .iface t (.int k a), .iface t' (.int k' b) =>
    bif Nat.beq t t' then
      (match P.info? t, P.underlying t with
      | some i, some (.int _) => bif i.comparable && sameK k k' then some (True, a == b) else none
      | _, _ => none)
    else some (True, false)
  | some (.func _ _ _), .nilfn, .nilfn => some (True, true)
  | some (.func _ _ _), .fn _ _, .nilfn => some (True, false)
  | _, _, _ => none
/-- a struct of two texts, compared -/
def PairT (P : Program) (t : TypeId) : Prop := P.eqGuardType P.depth t = false ∧ ∀ (w : World) (a b c d : List UInt8),
  (Op.equal t (.agg #[.string ⟨a.toArray⟩, .string ⟨b.toArray⟩]) (.agg #[.string ⟨c.toArray⟩, .string ⟨d.toArray⟩])).run P w = .ok (decide (a = c ∧ b = d)) w
def pair2 : AV → Option (List UInt8 × List UInt8)
  | .agg [.str a, .str b] => some (a, b)
  | _ => none
def neAgg (P : Program) (t : TypeId) (x y : AV) : Option (Prop × AV) := match pair2 x, pair2 y with
  | some p, some q => some (PairT P t, .bool (!decide (p.1 = q.1 ∧ p.2 = q.2)))
  | _, _ => none
def isAggV : AV → Bool
  | .agg _ => true
  | _ => false
def binE (P : Program) (op : BinOp) (t : TypeId) (c : Bool) (x y : AV) : Option (Prop × AV) :=
  match op, x, y with
  | .shl, .int k a, .int _ b => shiftE .shl k a b
  | .shr, .int k a, .int _ b => shiftE .shr k a b
  | op, .int k a, .int k' b => bif sameK k k' then intE op k a b else none
  | op, .str a, .str b => strE op a b
  | .eql, x, y => match eqE P t c x y with | some (p, r) => some (p, .bool r) | none => none
  | .neq, x, y => bif isAggV x then neAgg P t x y else match eqE P t c x y with | some (p, r) => some (p, .bool (!r)) | none => none
  | _, _, _ => none

theorem toList_mk (s : List UInt8) : (ByteArray.mk s.toArray).toList = s := by
  have key : ∀ (m i : Nat) (r : List UInt8), s.length - i = m → i ≤ s.length → ByteArray.toList.loop ⟨s.toArray⟩ i r = r.reverse ++ s.drop i := by
    intro m
    induction m with
    | zero =>
      intro i r h1 h2
      have hi : i = s.length := by omega
      rw [ByteArray.toList.loop]
      have : ¬ i < (ByteArray.mk s.toArray).size := by show ¬ i < s.toArray.size; simp; omega
      rw [if_neg this, hi]; simp
    | succ m ih =>
      intro i r h1 h2
      have hi : i < s.length := by omega
      rw [ByteArray.toList.loop]
      have : i < (ByteArray.mk s.toArray).size := by show i < s.toArray.size; simp; omega
      rw [if_pos this, ih (i + 1) _ (by omega) (by omega)]
      have e : (ByteArray.mk s.toArray).get! i = s[i] := by
        show s.toArray[i]! = s[i]
        simp [hi]
      rw [e, List.drop_eq_getElem_cons hi]; simp
  have := key s.length 0 [] rfl (Nat.zero_le _)
  simpa [ByteArray.toList] using this
variable {P : Program} {G : Gh} {w : World} {ρ : List Nat}
theorem shift_sound {op : BinOp} {k k' : IntKind} {a b : Int} {c : Prop} {v : AV} (h : shiftE op k a b = some (c, v)) (hc : c) :
    ∃ v', (Op.shift op k a k' b).run P w = .ok v' w ∧ VR G w ρ v v' := by
  cases op <;> simp only [shiftE, Option.some.injEq, Prod.mk.injEq, reduceCtorEq] at h <;> obtain ⟨rfl, rfl⟩ := h
  · exact ⟨_, by unfold Op.shift; rw [if_neg (Int.not_lt.2 hc)]; rfl, .int ..⟩
  · exact ⟨_, by unfold Op.shift; rw [if_neg (Int.not_lt.2 hc)]; rfl, .int ..⟩
theorem binOp_int {op : BinOp} (t : TypeId) (k : IntKind) (a b : Int) (h : op = .quo ∨ op = .rem) : Go.binOp op t (.int k a) (.int k b) = Op.intDiv op k a b := by
  rcases h with rfl | rfl <;> simp [Go.binOp]
theorem int_sound {op : BinOp} (hop : op ≠ .shl ∧ op ≠ .shr) {t : TypeId} {k : IntKind} {a b : Int} {c : Prop} {v : AV} (h : intE op k a b = some (c, v)) (hc : c) :
    ∃ v', (Go.binOp op t (.int k a) (.int k b)).run P w = .ok v' w ∧ VR G w ρ v v' := by
  cases op <;> simp only [intE, Option.some.injEq, Prod.mk.injEq] at h <;> obtain ⟨rfl, rfl⟩ := h
  case shl => exact absurd rfl hop.1
  case shr => exact absurd rfl hop.2
  case quo => exact ⟨_, by rw [binOp_int _ _ _ _ (.inl rfl)]; unfold Op.intDiv; rw [if_neg hc]; rfl, .int ..⟩
  case rem => exact ⟨_, by rw [binOp_int _ _ _ _ (.inr rfl)]; unfold Op.intDiv; rw [if_neg hc]; rfl, .int ..⟩
  all_goals first
    | exact ⟨_, by simp [Go.binOp, Op.intArith, Op.intBits, Op.intCmp, bitsE], .int ..⟩
    | exact ⟨_, by simp [Go.binOp, Op.intCmp], .bool ..⟩
    | exact ⟨_, by simp [Go.binOp, Op.intCmp]; rfl, .bool ..⟩
theorem str_sound {op : BinOp} {t : TypeId} {a b : List UInt8} {c : Prop} {v : AV} (h : strE op a b = some (c, v)) (hc : c) :
    ∃ v', (Go.binOp op t (.string ⟨a.toArray⟩) (.string ⟨b.toArray⟩)).run P w = .ok v' w ∧ VR G w ρ v v' := by
  have ea := toList_mk a
  have eb := toList_mk b
  cases op <;> simp only [strE, Option.some.injEq, Prod.mk.injEq, reduceCtorEq] at h <;> obtain ⟨rfl, rfl⟩ := h
  case add =>
    have e : (ByteArray.mk a.toArray ++ ByteArray.mk b.toArray) = ByteArray.mk (a ++ b).toArray := by
      apply ByteArray.ext
      simp
    refine ⟨_, ?_, .str ..⟩
    simp only [Go.binOp, Op.stringOp, ea, eb]
    rw [if_neg (by simp [ByteArray.size, IntKind.max, IntKind.signed, IntKind.bits]; omega), e]
    rfl
  all_goals exact ⟨_, by simp only [Go.binOp, Op.stringOp, ea, eb, Sem.run_pure], .bool ..⟩
theorem run_und {t : TypeId} {d : TypeDesc} (h : P.underlying t = some d) : (underlying t).run P w = .ok d w := by simp [underlying, h]
theorem run_ti {t : TypeId} {i : TypeInfo} (h : P.info? t = some i) : (typeInfo t).run P w = .ok i w := by simp [typeInfo, h]
theorem equalIn_iface_ne (d : Nat) {t a b : TypeId} {x y : Value} {ms} (h : P.underlying t = some (.interface ms)) (hne : a ≠ b) : (Op.equalIn (d + 1) t (.iface a x) (.iface b y)).run P w = .ok false w := by
  simp [Op.equalIn, run_und h, hne]
theorem equalIn_iface_int (d : Nat) {t a : TypeId} {k : IntKind} {x y : Int} {ms} {i : TypeInfo} {k0 : IntKind} (h : P.underlying t = some (.interface ms)) (hi : P.info? a = some i) (hu : P.underlying a = some (.int k0)) (hc : i.comparable = true) :
    (Op.equalIn (d + 2) t (.iface a (.int k x)) (.iface a (.int k y))).run P w = .ok (x == y) w := by
  simp [Op.equalIn, run_und h, run_und hu, run_ti hi, hc]
theorem VR.int_inv {k x v} (h : VR G w ρ (.int k x) v) : v = .int k x := by cases h; rfl
theorem VR.bool_inv {x v} (h : VR G w ρ (.bool x) v) : v = .bool x := by cases h; rfl
theorem VR.str_inv {x v} (h : VR G w ρ (.str x) v) : v = .string ⟨x.toArray⟩ := by cases h; rfl
theorem VR.nilp_inv {v} (h : VR G w ρ .nilp v) : v = .pointer none := by cases h; rfl
theorem VR.nili_inv {v} (h : VR G w ρ .nili v) : v = .nilIface := by cases h; rfl
theorem VR.nilfn_inv {v} (h : VR G w ρ .nilfn v) : v = .nilFunc := by cases h; rfl
theorem VR.ptr_inv {id off v} (h : VR G w ρ (.ptr id off) v) : ∃ b, ρ[id]? = some b ∧ v = .pointer (some (mkA b off)) := by cases h with | ptr _ _ _ b h => exact ⟨b, h, rfl⟩
theorem VR.hs_inv {id off len cap v} (h : VR G w ρ (.hs id off len cap) v) : ∃ b, ρ[id]? = some b ∧ v = .slice (some (mkA b off)) len cap := by cases h with | hs _ _ _ _ _ b h => exact ⟨b, h, rfl⟩
theorem VR.cptr_inv {x v} (h : VR G w ρ (.cptr x) v) : ∃ (b o : Nat) (vs : Nat → Value), v = .pointer (some (mkA b o)) ∧ (∀ q, q < x.cells.length → G b (o + q) = .frz ∧ w.cell? (mkA b (o + q)) = some (vs q)) ∧ (∀ (q : Nat) (c : AV), x.cells[q]? = some c → VR G w [] c (vs q)) := by
  cases h with | cptr _ _ b o vs hc hv => exact ⟨b, o, vs, rfl, hc, hv⟩
theorem VR.iface_inv {t x v} (h : VR G w ρ (.iface t x) v) : ∃ y, v = .iface t y ∧ VR G w ρ x y := by cases h with | iface _ _ _ y h => exact ⟨y, rfl, h⟩
theorem VR.fn_any {fx cap v} (h : VR G w ρ (.fn fx cap) v) : ∃ (f : Fn) (x y : Array Value), v = .func f x y := by
  cases h with
  | fn => exact ⟨_, _, _, rfl⟩
  | bfn => exact ⟨_, _, _, rfl⟩
theorem VR.fn_inv {g : FuncId} {cap v} (h : VR G w ρ (.fn (.func g) cap) v) : ∃ vs : List Value, v = .func (.func g) #[] vs.toArray ∧ vs.length = cap.length ∧ ∀ (q : Nat) (c : AV) (v : Value), cap[q]? = some c → vs[q]? = some v → VR G w ρ c v := by
  cases h with | fn _ _ _ vs hl hv => exact ⟨vs, rfl, hl, hv⟩
theorem VR.agg_inv {cs v} (h : VR G w ρ (.agg cs) v) : ∃ vs : List Value, v = .agg vs.toArray ∧ vs.length = cs.length ∧ ∀ (q : Nat) (c : AV) (v : Value), cs[q]? = some c → vs[q]? = some v → VR G w ρ c v := by
  cases h with | agg _ _ vs hl hv => exact ⟨vs, rfl, hl, hv⟩
theorem VR.tup_inv {cs v} (h : VR G w ρ (.tup cs) v) : ∃ vs : List Value, v = .tuple vs.toArray ∧ vs.length = cs.length ∧ ∀ (q : Nat) (c : AV) (v : Value), cs[q]? = some c → vs[q]? = some v → VR G w ρ c v := by
  cases h with | tup _ _ vs hl hv => exact ⟨vs, rfl, hl, hv⟩
theorem VR.sl_inv {sz m el o v} (h : VR G w ρ (.sl sz m el o) v) : ∃ (base : Option (Nat × Nat)) (cap : Nat) (vs : Nat → Value), v = .slice (base.map fun p => mkA p.1 p.2) m cap ∧ m ≤ cap ∧ (base = none → cap = 0) ∧
    (∀ i, i < m → (el i).cells.length = sz) ∧ (∀ b o, base = some (b, o) → ∀ q, q < m * sz → G b (o + q) = .frz ∧ w.cell? (mkA b (o + q)) = some (vs q)) ∧
    (∀ (i j : Nat) (c : AV), i < m → (el i).cells[j]? = some c → VR G w [] c (vs (i * sz + j))) := by
  cases h with | sl _ _ _ _ _ base cap vs hn hb hsz hc hv => exact ⟨base, cap, vs, rfl, hn, hb, hsz, hc, hv⟩
theorem VR.bs_inv {s o v} (h : VR G w ρ (.bs s o) v) : VR G w [] (.sl 1 s.length (byteEl s) o) v := by cases h; assumption
theorem equalIn_nili (d : Nat) {t : TypeId} {ms} (h : P.underlying t = some (.interface ms)) : (Op.equalIn (d + 1) t .nilIface .nilIface).run P w = .ok true w := by
  simp [Op.equalIn, run_und h]
theorem eqIn1 (d t a b) (hu : P.underlying t = some .bool) : (Op.equalIn (d+1) t (.bool a) (.bool b)).run P w = .ok (a == b) w := by
  simp only [Op.equalIn, Sem.run_bind, run_und hu, Result.andThen_ok, Sem.run_pure, Option.isNone]
theorem eqIn2 (d t e) (hu : P.underlying t = some (.pointer e)) : (Op.equalIn (d+1) t (.pointer none) (.pointer none)).run P w = .ok true w := by
  simp only [Op.equalIn, Sem.run_bind, run_und hu, Result.andThen_ok, Sem.run_pure, Option.isNone]
theorem eqIn3 (d t e a) (hu : P.underlying t = some (.pointer e)) : (Op.equalIn (d+1) t (.pointer none) (.pointer (some a))).run P w = .ok false w := by
  simp only [Op.equalIn, Sem.run_bind, run_und hu, Result.andThen_ok, Sem.run_pure, Option.isNone]
theorem eqIn4 (d t e a) (hu : P.underlying t = some (.pointer e)) : (Op.equalIn (d+1) t (.pointer (some a)) (.pointer none)).run P w = .ok false w := by
  simp only [Op.equalIn, Sem.run_bind, run_und hu, Result.andThen_ok, Sem.run_pure, Option.isNone]
theorem eqIn5 (d t e a b) (hu : P.underlying t = some (.interface e)) : (Op.equalIn (d+1) t .nilIface (.iface a b)).run P w = .ok false w := by
  simp only [Op.equalIn, Sem.run_bind, run_und hu, Result.andThen_ok, Sem.run_pure, Option.isNone]
theorem eqIn6 (d t e a b) (hu : P.underlying t = some (.interface e)) : (Op.equalIn (d+1) t (.iface a b) .nilIface).run P w = .ok false w := by
  simp only [Op.equalIn, Sem.run_bind, run_und hu, Result.andThen_ok, Sem.run_pure, Option.isNone]
theorem eqIn7 (d t e a b) (hu : P.underlying t = some (.func e a b)) : (Op.equalIn (d+1) t .nilFunc .nilFunc).run P w = .ok true w := by
  simp only [Op.equalIn, Sem.run_bind, run_und hu, Result.andThen_ok, Sem.run_pure, Option.isNone]
theorem eqIn8 (d t e a b x y z) (hu : P.underlying t = some (.func e a b)) : (Op.equalIn (d+1) t (.func x y z) .nilFunc).run P w = .ok false w := by
  simp only [Op.equalIn, Sem.run_bind, run_und hu, Result.andThen_ok, Sem.run_pure, Option.isNone]
theorem eq_sound {t : TypeId} {c : Bool} {x y : AV} {p : Prop} {r : Bool} {vx vy : Value} (h : eqE P t c x y = some (p, r)) (hp : p) (hx : VR G w ρ x vx) (hy : VR G w ρ y vy) :
    (Op.equal t vx vy).run P w = .ok r w := by
  unfold Op.equal
  rw [show Op.maxDepth = 9998 + 2 from rfl]
  generalize 9998 = D
  unfold eqE at h
  split at h
  case h_10 hu =>
    simp only [cond_eq_ite] at h
    rename_i t1 k a t2 k' b
    obtain ⟨_, rfl, hx2⟩ := hx.iface_inv
    obtain ⟨_, rfl, hy2⟩ := hy.iface_inv
    obtain rfl := hx2.int_inv
    obtain rfl := hy2.int_inv
    split at h
    · rename_i he
      have he := Nat.eq_of_beq_eq_true he
      subst he
      split at h
      · rename_i i k0 hi hu2
        split at h
        · rename_i hq
          simp only [Bool.and_eq_true, sameK, decide_eq_true_eq] at hq
          obtain ⟨hcmp, rfl⟩ := hq
          simp only [Option.some.injEq, Prod.mk.injEq] at h
          obtain ⟨rfl, rfl⟩ := h
          exact equalIn_iface_int D hu hi hu2 hcmp
        · simp at h
      · simp at h
    · rename_i he
      simp only [Option.some.injEq, Prod.mk.injEq] at h
      obtain ⟨rfl, rfl⟩ := h
      exact equalIn_iface_ne (D + 1) hu (fun e => he (by rw [e]; exact Nat.beq_refl _))
  case h_7 hu =>
    cases c <;> simp at h
    obtain ⟨_, rfl⟩ := h
    obtain rfl := hx.nili_inv
    obtain rfl := hy.nili_inv
    exact equalIn_nili (D + 1) hu
  case h_13 => simp at h
  all_goals
    rename_i hu
    simp only [Option.some.injEq, Prod.mk.injEq] at h
    obtain ⟨rfl, rfl⟩ := h
    first
    | (obtain rfl := hx.bool_inv; obtain rfl := hy.bool_inv; exact eqIn1 _ _ _ _ hu)
    | (obtain rfl := hx.nilp_inv; obtain rfl := hy.nilp_inv; exact eqIn2 _ _ _ hu)
    | (obtain rfl := hx.nilp_inv; obtain ⟨_, _, rfl⟩ := hy.ptr_inv; exact eqIn3 _ _ _ _ hu)
    | (obtain rfl := hx.nilp_inv; obtain ⟨_, _, _, rfl, _⟩ := hy.cptr_inv; exact eqIn3 _ _ _ _ hu)
    | (obtain ⟨_, _, rfl⟩ := hx.ptr_inv; obtain rfl := hy.nilp_inv; exact eqIn4 _ _ _ _ hu)
    | (obtain ⟨_, _, _, rfl, _⟩ := hx.cptr_inv; obtain rfl := hy.nilp_inv; exact eqIn4 _ _ _ _ hu)
    | (obtain rfl := hx.nili_inv; obtain ⟨_, rfl, _⟩ := hy.iface_inv; exact eqIn5 _ _ _ _ _ hu)
    | (obtain ⟨_, rfl, _⟩ := hx.iface_inv; obtain rfl := hy.nili_inv; exact eqIn6 _ _ _ _ _ hu)
    | (obtain rfl := hx.nilfn_inv; obtain rfl := hy.nilfn_inv; exact eqIn7 _ _ _ _ _ hu)
    | (obtain ⟨_, _, _, rfl⟩ := hx.fn_any; obtain rfl := hy.nilfn_inv; exact eqIn8 _ _ _ _ _ _ _ _ hu)
end Go.Am
set_option linter.unusedSectionVars false
set_option linter.unusedVariables false
set_option linter.unusedSimpArgs false
namespace Go.Am
open Go
variable [Tab]

def isAggT (P : Program) (t : TypeId) : Option Bool :=
  match P.underlying t with
  | some (.struct _) => some true
  | some (.array _ _) => some true
  | some _ => some false
  | none => none
/-- a number, as a numeral -/
def litN {β : Type} (n : Nat) (k : Nat → β) : β := bif Nat.beq n 0 then k 0 else bif Nat.beq n 1 then k 1 else bif Nat.beq n 2 then k 2 else bif Nat.beq n 3 then k 3 else bif Nat.beq n 4 then k 4 else bif Nat.beq n 5 then k 5 else bif Nat.beq n 6 then k 6 else bif Nat.beq n 7 then k 7 else bif Nat.beq n 8 then k 8 else bif Nat.beq n 9 then k 9 else bif Nat.beq n 10 then k 10 else bif Nat.beq n 11 then k 11 else bif Nat.beq n 12 then k 12 else bif Nat.beq n 13 then k 13 else bif Nat.beq n 14 then k 14 else bif Nat.beq n 15 then k 15 else bif Nat.beq n 16 then k 16 else bif Nat.beq n 17 then k 17 else bif Nat.beq n 18 then k 18 else bif Nat.beq n 19 then k 19 else bif Nat.beq n 20 then k 20 else bif Nat.beq n 21 then k 21 else bif Nat.beq n 22 then k 22 else bif Nat.beq n 23 then k 23 else bif Nat.beq n 24 then k 24 else bif Nat.beq n 25 then k 25 else bif Nat.beq n 26 then k 26 else bif Nat.beq n 27 then k 27 else bif Nat.beq n 28 then k 28 else bif Nat.beq n 29 then k 29 else bif Nat.beq n 30 then k 30 else bif Nat.beq n 31 then k 31 else bif Nat.beq n 32 then k 32 else bif Nat.beq n 33 then k 33 else bif Nat.beq n 34 then k 34 else bif Nat.beq n 35 then k 35 else bif Nat.beq n 36 then k 36 else bif Nat.beq n 37 then k 37 else bif Nat.beq n 38 then k 38 else bif Nat.beq n 39 then k 39 else bif Nat.beq n 40 then k 40 else k n
theorem litN_eq {β : Type} (n : Nat) (k : Nat → β) : litN n k = k n := by
  have key : ∀ (m : Nat) (x : β), x = k n → (bif Nat.beq n m then k m else x) = k n := by
    intro m x hx
    cases hb : Nat.beq n m with
    | true => rw [Nat.eq_of_beq_eq_true hb]; rfl
    | false => exact hx
  unfold litN
  repeat (first | rfl | refine key _ _ ?_)
def szT (P : Program) (t : TypeId) : Option Nat := match P.info? t with
  | some i => litN i.size some
  | none => none
theorem szT_eq (P : Program) (t : TypeId) : szT P t = (P.info? t).map (·.size) := by
  unfold szT; split <;> rename_i e <;> rw [e]
  · rw [litN_eq]; rfl
  · rfl
def partE (P : Program) (t : TypeId) (cs : List AV) (off : Nat) : Option AV :=
  match isAggT P t, szT P t with
  | some true, some n => some (.agg ((cs.drop off).take n))
  | some false, some _ => (cs[off]?).map un
  | _, _ => none
/-- a variable's value out of its cells -/
def varE (P : Program) (t : TypeId) (cs : List AV) (off : Nat) : Option AV :=
  match isAggT P t, szT P t with
  | some true, some n => bif Nat.ble (off + n) cs.length then some (.agg ((cs.drop off).take n)) else none
  | some false, some _ => (cs[off]?).map un
  | _, _ => none
def unE (op : UnOp) (x : AV) : Option AV :=
  match op, x with
  | .neg, .int k a => some (.int k (k.wrap (0 - a)))
  | .xor, .int k a => some (.int k (bitsE .xor k (if k.signed then -1 else k.max) a))
  | .not, .bool b => some (.bool (!b))
  | _, _ => none
def convE (P : Program) (s d : TypeId) (x : AV) : Option AV :=
  match P.underlying s, P.underlying d, x with
  | some _, some (.int k), .int _ a => some (.int k (k.wrap a))
  | some _, some .string, .str a => some (.str a)
  | some (.slice e), some .string, .bs a _ => match P.underlying e with | some (.int .u8) => some (.str a) | _ => none
  | _, _, _ => none
def lenE (P : Program) (t : TypeId) (x : AV) : Option AV :=
  match P.underlying t, x with
  | some .string, .str s => some (.int .i64 s.length)
  | some (.slice _), .bs s _ => some (.int .i64 s.length)
  | some (.slice _), .sl _ m _ _ => some (.int .i64 m)
  | some (.slice _), .hs _ _ m _ => some (.int .i64 m)
  | _, _ => none
def indexE (P : Program) (t : TypeId) (x i : AV) : Option (Prop × AV) :=
  match P.underlying t, x, i with
  | some .string, .str s, .int _ j => some (0 ≤ j ∧ j < s.length, .int .u8 (s.getD j.toNat 0).toNat)
  | some (.array m e), .agg cs, .int _ j => match isAggT P e, szT P e with
    | some false, some 1 => some (0 ≤ j ∧ j < m ∧ m ≤ cs.length, un (cs.getD j.toNat .bad))
    | _, _ => none
  | _, _, _ => none
def indexAddrE (P : Program) (t : TypeId) (x i : AV) : Option (Prop × AV) :=
  match P.underlying t, x, i with
  | some (.slice e), .bs s _, .int _ j => match szT P e with
    | some 1 => some (0 ≤ j ∧ j < s.length, .cptr (byteEl s j.toNat))
    | _ => none
  | some (.slice e), .sl sz m el _, .int _ j => match szT P e with
    | some z => bif Nat.beq z sz then some (0 ≤ j ∧ j < m, .cptr (el j.toNat)) else none
    | _ => none
  | some (.slice e), .hs id off m _, .int _ j => match szT P e with
    | some z => some (0 ≤ j ∧ j < m, .ptr id (off + j.toNat * z))
    | _ => none
  | some (.array m e), .ptr id off, .int _ j => match szT P e with
    | some z => some (0 ≤ j ∧ j < m, .ptr id (off + j.toNat * z))
    | _ => none
  | _, _, _ => none
def loadE (P : Program) (H : Heap) (t : TypeId) (x : AV) : Option AV :=
  match x with
  | .cptr v => varE P t v.cells 0
  | .ptr id off => (H[id]?).bind fun blk => varE P t blk off
  | _ => none
def fieldOf (P : Program) (s : TypeId) (f : Nat) : Option (Nat × TypeId) :=
  match P.underlying s with
  | some (.struct fs) => (fs[f]?).map fun x => (x.offset, x.type)
  | _ => none
def isSc : AV → Bool
  | .agg _ => false
  | _ => true
def fieldAddrE (P : Program) (s : TypeId) (x : AV) (f : Nat) : Option AV :=
  match fieldOf P s f, x with
  | some (o, t), .ptr id off => match szT P t with
    | some (_ + 1) => some (.ptr id (off + o))
    | _ => none
  | some (o, t), .cptr (.agg cs) => match szT P t with
    | some (z + 1) => bif Nat.ble (o + (z + 1)) cs.length then (match isAggT P t with
      | some true => some (.cptr (.agg ((cs.drop o).take (z + 1))))
      | some false => (cs[o]?).bind fun c => bif isSc c then some (.cptr c) else none
      | none => none) else none
    | _ => none
  | _, _ => none
def fieldE (P : Program) (s : TypeId) (x : AV) (f : Nat) : Option AV :=
  match fieldOf P s f, x with
  | some (o, t), .agg cs => partE P t cs o
  | _, _ => none
def extractE (x : AV) (i : Nat) : Option AV :=
  match x with
  | .tup vs => (vs[i]?).map un
  | _ => none
def nilCheckE (x : AV) : Option AV :=
  match x with
  | .ptr id off => some (.ptr id off)
  | .cptr v => some (.cptr v)
  | .iface t v => some (.iface t v)
  | .fn (.func f) c => some (.fn (.func f) c)
  | _ => none
def isIface (P : Program) (t : TypeId) : Option Bool :=
  match P.underlying t with
  | some (.interface _) => some true
  | some _ => some false
  | none => none
def minMaxE (mn : Bool) (x y : AV) : Option AV :=
  match x, y with
  | .int k a, .int k' b => bif sameK k k' then some (.int k (bif mn then (if b < a then b else a) else (if a < b then b else a))) else none
  | _, _ => none
end Go.Am
set_option linter.unusedSectionVars false
set_option linter.unusedVariables false
set_option linter.unusedSimpArgs false
namespace Go.Am
open Go
variable [Tab]
variable {P : Program} {G : Gh} {w : World} {ρ : List Nat}

theorem run_isAgg {t : TypeId} {b : Bool} (h : isAggT P t = some b) : (isAgg t).run P w = .ok b w := by
  unfold isAggT at h
  unfold isAgg
  split at h <;> simp_all [run_und]
theorem run_sizeOf {t : TypeId} {n : Nat} (h : szT P t = some n) : (sizeOf t).run P w = .ok n w := by
  rw [szT_eq] at h
  obtain ⟨i, hi, rfl⟩ := Option.map_eq_some_iff.1 h
  simp [sizeOf, run_ti hi]
def VRs (G : Gh) (w : World) (ρ : List Nat) (cs : List AV) (vs : List Value) : Prop :=
  vs.length = cs.length ∧ ∀ (q : Nat) (c : AV) (v : Value), cs[q]? = some c → vs[q]? = some v → VR G w ρ c v
theorem VRs.sub {cs vs} (h : VRs G w ρ cs vs) (o n : Nat) : VRs G w ρ ((cs.drop o).take n) ((vs.drop o).take n) := by
  refine ⟨by simp [h.1], fun q c v h1 h2 => ?_⟩
  rw [List.getElem?_take] at h1 h2
  split at h1
  · rename_i hq
    rw [if_pos hq, List.getElem?_drop] at h2
    rw [List.getElem?_drop] at h1
    exact h.2 _ _ _ h1 h2
  · simp at h1
theorem part_sound {t : TypeId} {cs : List AV} {vs : List Value} {off : Nat} {v : AV} (h : partE P t cs off = some v) (hv : VRs G w ρ cs vs) :
    ∃ v', (part t vs.toArray off).run P w = .ok v' w ∧ VR G w ρ v v' := by
  unfold partE at h
  split at h
  · rename_i n ha hs
    simp only [Option.some.injEq] at h
    subst h
    refine ⟨.agg ((vs.drop off).take n).toArray, ?_, .agg _ _ _ (hv.sub off n).1 (hv.sub off n).2⟩
    simp only [part, Sem.run_bind, run_isAgg ha, Result.andThen_ok, if_true, run_sizeOf hs, Sem.run_pure]
    congr 2
    apply Array.ext'
    simp [List.take_drop, Nat.add_comm]
  · rename_i n ha hs
    obtain ⟨c, hc, rfl⟩ := Option.map_eq_some_iff.1 h
    have hl : off < vs.length := by rw [hv.1]; exact (List.getElem?_eq_some_iff.1 hc).1
    refine ⟨vs[off], ?_, (hv.2 off c _ hc (List.getElem?_eq_getElem hl)).un⟩
    simp [part, run_isAgg ha, hl]
  · simp at h
theorem list_of_fun {cs : List AV} {p : Nat → Value → Prop} (h : ∀ (q : Nat) (c : AV), cs[q]? = some c → ∃ x, p q x ∧ VR G w ρ c x) :
    ∃ vs : List Value, VRs G w ρ cs vs ∧ ∀ (q : Nat) (v : Value), vs[q]? = some v → p q v := by
  refine ⟨(List.range cs.length).map fun q => if hq : q < cs.length then Classical.choose (h q cs[q] (List.getElem?_eq_getElem hq)) else undef, ⟨by simp, fun q c v h1 h2 => ?_⟩, fun q v h2 => ?_⟩
  · have hq := (List.getElem?_eq_some_iff.1 h1).1
    simp only [List.getElem?_map, List.getElem?_range hq, Option.map_some, Option.some.injEq] at h2
    rw [dif_pos hq] at h2
    subst h2
    have e : cs[q] = c := by rw [List.getElem?_eq_getElem hq] at h1; exact Option.some.inj h1
    subst e
    exact (Classical.choose_spec (h q cs[q] (List.getElem?_eq_getElem hq))).2
  · have hq : q < cs.length := by have := (List.getElem?_eq_some_iff.1 h2).1; simpa using this
    simp only [List.getElem?_map, List.getElem?_range hq, Option.map_some, Option.some.injEq] at h2
    rw [dif_pos hq] at h2
    subst h2
    exact (Classical.choose_spec (h q cs[q] (List.getElem?_eq_getElem hq))).1
theorem var_sound {t : TypeId} {cs : List AV} {b o off : Nat} {v : AV} (h : varE P t cs off = some v)
    (hv : ∀ (q : Nat) (c : AV), cs[q]? = some c → ∃ x, w.cell? (mkA b (o + q)) = some x ∧ VR G w ρ c x) :
    ∃ v', (loadVar t (mkA b (o + off))).run P w = .ok v' w ∧ VR G w ρ v v' := by
  obtain ⟨vs, hvs, hcell⟩ := list_of_fun (p := fun q x => w.cell? (mkA b (o + q)) = some x) hv
  unfold varE at h
  split at h
  · rename_i n ha hs
    simp only [cond_eq_ite] at h
    split at h
    · rename_i hle
      have hle := Nat.le_of_ble_eq_true hle
      simp only [Option.some.injEq] at h
      subst h
      refine ⟨.agg ((vs.drop off).take n).toArray, ?_, .agg _ _ _ (hvs.sub off n).1 (hvs.sub off n).2⟩
      have hl : ((vs.drop off).take n).length = n := by simp [hvs.1]; omega
      have := run_loadCells_list (P := P) w (mkA b (o + off)) ((vs.drop off).take n) (fun j v hj => by
        rw [List.getElem?_take] at hj
        split at hj
        · rw [List.getElem?_drop] at hj
          rw [mkA_add, Nat.add_assoc]
          exact hcell _ _ hj
        · simp at hj)
      rw [hl] at this
      simp only [loadVar, Sem.run_bind, run_isAgg ha, Result.andThen_ok, if_true, run_sizeOf hs, this, Sem.run_pure]
    · simp at h
  · rename_i n ha hs
    obtain ⟨c, hc, rfl⟩ := Option.map_eq_some_iff.1 h
    have hl : off < vs.length := by rw [hvs.1]; exact (List.getElem?_eq_some_iff.1 hc).1
    refine ⟨vs[off], ?_, (hvs.2 off c _ hc (List.getElem?_eq_getElem hl)).un⟩
    have := hcell off _ (List.getElem?_eq_getElem hl)
    simp [loadVar, run_isAgg ha, this]
  · simp at h
theorem load_sound {H : Heap} {t : TypeId} {x v : AV} {vx : Value} (h : loadE P H t x = some v) (hb : BR G w ρ H) (hx : VR G w ρ x vx) :
    ∃ v', (Instr.loadAt t vx).run P w = .ok v' w ∧ VR G w ρ v v' := by
  unfold loadE at h
  split at h
  · obtain ⟨b, o, vs, rfl, hc, hv⟩ := hx.cptr_inv
    have := var_sound (b := b) (o := o) (w := w) (G := G) (ρ := ρ) h (fun q c hq => ⟨vs q, (hc q (List.getElem?_eq_some_iff.1 hq).1).2, (hv q c hq).of_nil⟩)
    simpa [Instr.loadAt, Instr.sureAddr] using this
  · rename_i id off
    obtain ⟨b, hr, rfl⟩ := hx.ptr_inv
    obtain ⟨blk, hk, h⟩ := Option.bind_eq_some_iff.1 h
    have := var_sound (b := b) (o := 0) (w := w) (G := G) (ρ := ρ) h (fun q c hq => by
      obtain ⟨_, x, hx1, hx2, _⟩ := hb.cell id b blk q c hr hk hq
      exact ⟨x, by rwa [Nat.zero_add], hx2⟩)
    simpa [Instr.loadAt, Instr.sureAddr] using this
  · simp at h
theorem un_sound {op : UnOp} {x v : AV} {vx : Value} (h : unE op x = some v) (hx : VR G w ρ x vx) : ∃ v', (Op.unary op vx).run P w = .ok v' w ∧ VR G w ρ v v' := by
  unfold unE at h
  split at h <;> simp only [Option.some.injEq, reduceCtorEq] at h <;> subst h
  · obtain rfl := hx.int_inv; exact ⟨_, by simp [Op.unary, Op.intArith], .int ..⟩
  · obtain rfl := hx.int_inv; exact ⟨_, by simp [Op.unary, Op.intBits, bitsE], .int ..⟩
  · obtain rfl := hx.bool_inv; exact ⟨_, by simp [Op.unary], .bool ..⟩
theorem bytes_cells {s : List UInt8} {o : Bool} {v : Value} (h : VR G w ρ (.bs s o) v) :
    ∃ (base : Option (Nat × Nat)) (cap : Nat), v = .slice (base.map fun p => mkA p.1 p.2) s.length cap ∧ s.length ≤ cap ∧ (base = none → cap = 0) ∧
      ∀ b off, base = some (b, off) → ∀ q, q < s.length → G b (off + q) = .frz ∧ w.cell? (mkA b (off + q)) = some (.int .u8 (s.getD q 0).toNat) := by
  obtain ⟨base, cap, vs, rfl, h1, h2, h3, h4, h5⟩ := h.bs_inv.sl_inv
  refine ⟨base, cap, rfl, h1, h2, fun b off e q hq => ?_⟩
  have h6 := h4 b off e q (by omega)
  have h7 := h5 q 0 (byteEl s q) hq (by simp [byteEl, AV.cells])
  have h8 := VR.int_inv h7
  rw [Nat.mul_one, Nat.add_zero] at h8
  rw [h8] at h6
  exact h6
theorem conv_sound {s d : TypeId} {x v : AV} {vx : Value} (h : convE P s d x = some v) (hx : VR G w ρ x vx) : ∃ v', (convert s d vx).run P w = .ok v' w ∧ VR G w ρ v v' := by
  unfold convE at h
  split at h
  · rename_i hs hd
    simp only [Option.some.injEq] at h; subst h
    obtain rfl := hx.int_inv
    exact ⟨_, by simp [convert, run_und hs, run_und hd, Conv.intToInt], .int ..⟩
  · rename_i hs hd
    simp only [Option.some.injEq] at h; subst h
    obtain rfl := hx.str_inv
    exact ⟨_, by simp [convert, run_und hs, run_und hd], .str ..⟩
  · rename_i e a o hs hd
    split at h
    · rename_i he
      simp only [Option.some.injEq] at h; subst h
      obtain ⟨base, cap, rfl, h1, h2, h3⟩ := bytes_cells hx
      cases base with
      | none =>
        have : a = [] := List.eq_nil_of_length_eq_zero (by have := h2 rfl; omega)
        subst this
        exact ⟨.string ⟨#[]⟩, run_convert_bytes_nil w s e hs he _ _ d hd, .str _ []⟩
      | some p =>
        have := run_convert_bytes_arg (P := P) w s e hs he p.1 p.2 a.length cap (a.map fun c => (c.toNat : Int)) (by simp) (fun i hi => by
          have := (h3 p.1 p.2 rfl i hi).2
          simp [mkA] at this
          rw [this]
          simp [List.getD_eq_getElem?_getD, List.getElem?_eq_getElem hi]) d hd
        refine ⟨.string ⟨a.toArray⟩, ?_, .str ..⟩
        simp only [Option.map_some, mkA]
        rw [this]
        have : (a.map fun c => (c.toNat : Int)).map (fun n => UInt8.ofNat n.toNat) = a := by
          rw [List.map_map]
          conv => rhs; rw [← List.map_id a]
          exact List.map_congr_left fun c _ => by simp
        rw [strOfNums, this]
    · simp at h
  · simp at h
theorem len_sound {t : TypeId} {ty : TypeId} {ats : Array TypeId} (ht : ats[0]? = some t) {x v : AV} {vx : Value} (h : lenE P t x = some v) (hx : VR G w ρ x vx) : ∃ v', (Builtin.len_ ats ty #[vx]).run P w = .ok v' w ∧ VR G w ρ v v' := by
  unfold lenE at h
  split at h <;> simp only [Option.some.injEq, reduceCtorEq] at h <;> subst h <;> rename_i hu
  · obtain rfl := hx.str_inv
    rename_i s _ _; exact ⟨.int .i64 _, by simp only [Builtin.len_, ht, List.getElem?_toArray, List.getElem?_cons_zero, Sem.run_bind, run_und hu, Result.andThen_ok, goInt]; rfl, .int ..⟩
  · obtain ⟨base, cap, rfl, _⟩ := bytes_cells hx
    exact ⟨_, by simp [Builtin.len_, ht, run_und hu, goInt], .int ..⟩
  · obtain ⟨base, cap, vs, rfl, _⟩ := hx.sl_inv
    exact ⟨_, by simp [Builtin.len_, ht, run_und hu, goInt], .int ..⟩
  · obtain ⟨b, _, rfl⟩ := hx.hs_inv
    exact ⟨_, by simp [Builtin.len_, ht, run_und hu, goInt], .int ..⟩
end Go.Am
