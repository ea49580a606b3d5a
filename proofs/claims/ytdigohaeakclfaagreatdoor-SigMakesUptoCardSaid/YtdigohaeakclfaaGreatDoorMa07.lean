/- The abstract machine: a call's arguments, as values. The abstract machine: a contract of the library's, as a contract of the machine's. The abstract machine: a return that leaves the function's own blocks behind. The abstract machine: a drawn region in which two operations may not change places: both orders are shown. The abstract machine: drawn regions in which reads and writes at blocks that are unlike change places; calls that return new blocks. The abstract machine: a step of which the outcome hangs on what memory is given; 'append' to a row that is written later. The abstract machine: short words for what is said often. DERIVED: THE SHELF's CONTRACTS AT THIS DUMP, IN PLAIN WORDS (tools/lay-plain.mjs out of 'TryzShelf.lean', which tools/lay-shelf.mjs wrote): THE SAME DECLARATIONS UNDER THE SAME NAMES: 'import', 'namespace', 'open', 'def', 'theorem' AND NOTHING ELSE: no command of the shelf's: FOR A HAND-IN. Each laying: the table of numbers ('.._ren') and one theorem, a field a fact of the dump's own or the kernel's comparison; each contract: ONE APPLICATION. -/
import Derived.Test.YtdigohaeakclfaaGreatDoorMa06
import Derived.Sort.Grow
import Derived.Shelf.Strings.Builder1
import Derived.Shelf.Strings.Builder2
import Derived.Shelf.Strings.OnBuilder
import Derived.Shelf.Small.Bits
import Derived.Shelf.Small.Strs
import Derived.Shelf.Small.Wraps
import Derived.Shelf.Strings.BuilderF
import Derived.Shelf.Strings.BuilderK
import Derived.Shelf.Strings.Builder2Cap
import Derived.Shelf.Strconv.Itoa0
import Derived.Shelf.Strings.Search1
import Derived.Shelf.Strings.Search2
import Derived.Shelf.Strings.Search3
import Derived.Shelf.Strings.Cut
import Derived.Shelf.LaysM
import Derived.Shelf.Strings.Shaped
import Derived.Shelf.Strings.Prefix
import Derived.Shelf.Strings.BuilderCap
import Derived.Test.YtdigohaeakclfaaGreatDoorProg
set_option linter.unusedSectionVars false
set_option linter.unusedVariables false
set_option linter.unusedSimpArgs false
namespace Go.Am
open Go Go.ChangeShapes Go.WideShapes Go.ChangeAt Go.RowKit
variable [Tab]
variable {P : Program} {H : Type} {enc : TypeId × Value → H} {W : World} {base : Nat}

theorem arg_str {r : Reach} {t : TypeId} {v : Value} {d : DataW H} {p : List MemPlace} (ht : P.underlying t = some .string) (hval : Value.okWide P W r base t v) (h : DataW.Trod enc P W 0 (fun _ => true) true t v d p) :
    ∃ l : List UInt8, v = .string ⟨l.toArray⟩ ∧ d = .lit (.string l) ∧ VR (G0 W) W [] (.str l) v := by
  obtain ⟨s, rfl, rfl, rfl, hs⟩ := ChangeMaps.open_string ht hval h
  refine ⟨s.data.toList, ?_, rfl, ?_⟩
  · simp
  · have := VR.str (G := G0 W) (w := W) [] s.data.toList
    simpa using this
theorem arg_int {r : Reach} {t : TypeId} {k : IntKind} {v : Value} {d : DataW H} {p : List MemPlace} (ht : P.underlying t = some (.int k)) (hval : Value.okWide P W r base t v) (h : DataW.Trod enc P W 0 (fun _ => true) true t v d p) :
    ∃ n : Int, v = .int k n ∧ d = .lit (.int k n) ∧ (Lit.int k n).wf = true ∧ VR (G0 W) W [] (.int k n) v := by
  obtain ⟨n, rfl, rfl, rfl, w0⟩ := open_int ht hval h
  exact ⟨n, rfl, rfl, w0, .int ..⟩
theorem arg_bytes {r : Reach} {t e : TypeId} {v : Value} {d : DataW H} {p : List MemPlace} (ht : P.underlying t = some (.slice e)) (he : P.underlying e = some (.int .u8)) (hc : P.cellsOf e = 1)
    (hval : Value.okWide P W r base t v) (h : DataW.Trod enc P W 0 (fun _ => true) true t v d p) :
    ∃ l : List UInt8, VR (G0 W) W [] (.bs l false) v ∧ ((d = .nil ∧ l = []) ∨ ∃ es sp, d = .slice es sp ∧ l.length = es.length) := by
  obtain ⟨a1, len, cap, rfl⟩ := okWide_slice ht hval
  obtain ⟨fuel, hf⟩ := h
  rcases open_ints ht he hc hf with ⟨hcs, hx⟩ | ⟨a, len', cap', zs, hcs, _, hl, hm, hz, hx, hcell, hwz⟩
  · simp [Value.cells] at hcs
    obtain ⟨rfl, rfl, rfl⟩ := hcs
    simp only [Prod.mk.injEq] at hx
    refine ⟨[], .bs _ _ _ _ (.sl _ _ _ _ _ none 0 (fun _ => undef) (Nat.le_refl _) (fun _ => rfl) (fun i h => absurd h (Nat.not_lt_zero _)) (fun b o h => by simp at h) (fun i j c h => absurd h (Nat.not_lt_zero _))), .inl ⟨hx.1, rfl⟩⟩
  · simp [Value.cells] at hcs
    obtain ⟨rfl, rfl, rfl⟩ := hcs
    simp only [Prod.mk.injEq] at hx
    simp only [if_true] at hz
    let l : List UInt8 := (zs.take len).map toB
    have hlen : l.length = len := by simp [l]; omega
    refine ⟨l, ?_, .inr ⟨_, _, hx.1, by rw [hlen]; simp [lits]; omega⟩⟩
    refine .bs _ _ _ _ ?_
    rw [hlen]
    have hb : ∀ i, i < len → 0 ≤ zs.getD i 0 ∧ zs.getD i 0 < 256 := by
      intro i hi
      have hi' : i < zs.length := by omega
      have := hwz (zs.getD i 0) (by rw [List.getD_eq_getElem?_getD, List.getElem?_eq_getElem hi']; exact List.getElem_mem hi')
      generalize zs.getD i 0 = x at this
      simp [Lit.wf, IntKind.min, IntKind.max, IntKind.signed, IntKind.bits] at this
      omega
    have ha : a = mkA a.block a.off := by
      have hok := hval
      simp only [Value.okWide, ht, Cell.okWide, Cell.ok] at hok
      obtain ⟨b, o, sp⟩ := a
      have := hok.2.2.2.1
      simp only at this; subst this; rfl
    by_cases h0 : len = 0
    · subst h0
      have := VR.sl (G := G0 W) (w := W) [] 1 0 (byteEl l) false (some (a.block, a.off)) cap (fun _ => undef) (by omega) (by simp) (fun i h => absurd h (Nat.not_lt_zero _)) (fun b o _ q h => by simp at h) (fun i j c h => absurd h (Nat.not_lt_zero _))
      rw [ha]
      exact this
    · rw [ha]
      refine .sl _ _ _ _ _ (some (a.block, a.off)) cap (fun q => .int .u8 (zs.getD q 0)) hl (by simp) (fun i _ => rfl) (fun b o e q hq => ?_) (fun i j c hi hcj => ?_)
      · simp only [Option.some.injEq, Prod.mk.injEq] at e
        obtain ⟨rfl, rfl⟩ := e
        have h1 := hcell q (by omega)
        rw [ha, mkA_add] at h1
        exact ⟨G0_frz h1 rfl, h1⟩
      · have hj : j = 0 := by
          have := (List.getElem?_eq_some_iff.1 hcj).1
          simpa [byteEl, AV.cells] using this
        subst hj
        simp [byteEl, AV.cells] at hcj
        subst hcj
        have : ((l[i]?.getD 0).toNat : Int) = zs.getD i 0 := by
          simp only [l, List.getElem?_map, List.getElem?_take, if_pos hi]
          have hi' : i < zs.length := by omega
          rw [List.getElem?_eq_getElem hi']
          have := hb i hi
          rw [List.getD_eq_getElem?_getD, List.getElem?_eq_getElem hi'] at this ⊢
          simp only [Option.getD_some, Option.map_some] at this ⊢
          exact toB_val this.1 this.2
        rw [Nat.mul_one, Nat.add_zero, this]
        exact .int ..
end Go.Am
set_option linter.unusedSectionVars false
set_option linter.unusedVariables false
set_option linter.unusedSimpArgs false
namespace Go.Am
open Go Go.RowKit
variable [Tab]
variable {P : Program} {f : FuncId}

theorem Below.at_ {w w' : World} (h : Below w.heap.size w w') {b o : Nat} (hb : b < w.heap.size) : w'.cell? (mkA b o) = w.cell? (mkA b o) ∧ w'.frozen? (mkA b o) = w.frozen? (mkA b o) := by
  have e := h.block b hb
  constructor
  · show (match w'.heap[b]? with | _ => _) = (match w.heap[b]? with | _ => _)
    simp only [World.cell?, mkA, e]
  · simp only [World.frozen?, mkA, e]
theorem Below.tr {w w' : World} {G : Gh} (h : Below w.heap.size w w') (hw : WI G w) : Trans G w G w' := by
  refine ⟨h.os, h.tape, h.output, h.size, fun _ _ e => e, fun _ _ e => e, fun b o e => ?_, fun b hb _ => h.block b hb, fun _ _ e1 e2 => absurd e2 e1⟩
  exact Below.at_ h (hw.lt (b := b) (o := o) (by rcases e with e | e <;> rw [e] <;> simp))
theorem Below.wi {w w' : World} {G : Gh} (h : Below w.heap.size w w') (hw : WI G w) : WI G w' := by
  have lt : ∀ b o, (G b o = .frz ∨ (G b o).mine = true) → b < w.heap.size := fun b o e => hw.lt (b := b) (o := o) (by
    rcases e with e | e
    · rw [e]; simp
    · intro k; rw [k] at e; cases e)
  refine ⟨fun b o e => ?_, fun b o hb => hw.old b o (Nat.le_trans h.size hb), fun b o v e hc => ?_, hw.tab.trans (Below.tr h hw)⟩
  · have := Below.at_ h (o := o) (lt b o (.inr e))
    rw [this.1, this.2]; exact hw.own b o e
  · rw [(Below.at_ h (o := o) (lt b o e)).1] at hc
    exact hw.one b o v e hc
/-- a value that hangs on no world -/
def pv : AV → Bool
  | .int .. => true
  | .bool _ => true
  | .str _ => true
  | .tup vs => vs.all fun | .int .. => true | .bool _ => true | .str _ => true | _ => false
  | _ => false
theorem pv_nr {a : AV} (h : pv a = true) : nr a = true := by
  cases a <;> simp [pv] at h <;> try rfl
  rename_i vs
  unfold nr
  rw [List.all_eq_true]
  intro x hx
  have := h x hx
  cases x <;> simp at this ⊢ <;> rfl
/-- what a function of the library leaves that returns pure values and makes new blocks alone -/
theorem FnOK.of_below {args : List AV} {res : AV} (hr : pv res = true)
    (h : ∀ (w : World) (G : Gh) (vs : List Value), vs.length = args.length → (∀ (i : Nat) (c : AV) (v : Value), args[i]? = some c → vs[i]? = some v → VR G w [] c v) → WI G w →
      Calls P f vs.toArray w fun e w' => ∃ v, e = .returned v ∧ (∀ G w, VR G w [] res v) ∧ Below w.heap.size w w') : FnOK P f args [] res [] := by
  intro w G ρ vs hl ha hb hw
  have hρ : ρ = [] := List.eq_nil_of_length_eq_zero (by rw [← hb.len]; rfl)
  subst hρ
  refine (h w G vs hl (fun i c v e1 e2 => (ha i c v e1 e2).1) hw).mono ?_
  rintro e w' ⟨v, rfl, hv, hB⟩
  refine ⟨v, G, [], rfl, Below.tr hB hw, Below.wi hB hw, rfl, ⟨rfl, fun id b blk j c h1 => by simp at h1⟩, hv _ _, SpV_nr (pv_nr hr)⟩
end Go.Am
set_option linter.unusedSectionVars false
set_option linter.unusedVariables false
set_option linter.unusedSimpArgs false
namespace Go.Am
open Go
variable [Tab]
variable {P : Program} {n k0 : Nat} {fr : Fr} {H : Heap} {f : FuncId} {S : List Item} {res : AV} {H' : Heap}

theorem BR.takeP {G : Gh} {w : World} {ρ : List Nat} {H : Heap} (h : BR G w ρ H) (m : Nat) (hp : (H.take m).all (·.all pf) = true) : BR G w (ρ.take m) (H.take m) := by
  refine ⟨by simp [h.len], fun id b blk j c h1 h2 h3 => ?_⟩
  have hm : id < m := by
    have := (List.getElem?_eq_some_iff.1 h2).1
    simp at this; omega
  have h2' := h2
  rw [List.getElem?_take, if_pos hm] at h1 h2
  obtain ⟨e, v, k1, k2, k3⟩ := h.cell id b blk j c h1 h2 h3
  refine ⟨e, v, k1, k2.pf ?_ _, k3⟩
  rw [List.all_eq_true] at hp
  have := hp blk (List.mem_of_getElem? h2')
  rw [List.all_eq_true] at this
  exact this c (List.mem_of_getElem? h3)
/-- the result is read, the function's own blocks are left -/
theorem Runs.retD {fn : Func} {v : AV} (hf : P.funcs[f]? = some fn) (h : retE P fr H fn.results.toList = some v) (hn : nr v = true) (hq : pfR v = true) (hr : v = res) (hh : H.take k0 = H') (hp : (H.take k0).all (·.all pf) = true) : Runs P f n k0 (.code .ret :: S) fr H res H' := by
  intro b a w G ρ h1 h2 h3 hk h4 cs
  obtain ⟨v', w', G', ρ', frm, s1, s2, s3, t1, t2, t3, t4, t5, t6⟩ := Runs.retH (S := S) (n := n) (k0 := k0) hf h hn hr rfl b a w G ρ h1 h2 h3 hk h4 cs
  subst hr; subst hh
  refine ⟨v', w', G', ρ'.take k0, frm, s1, s2, s3, t1, t2, by rw [List.take_take, Nat.min_self]; exact t3, t4.takeP k0 hp, t5.pfR hq _, t6⟩
end Go.Am
set_option linter.unusedSectionVars false
set_option linter.unusedVariables false
set_option linter.unusedSimpArgs false
namespace Go.Am
open Go
variable [Tab]
variable {P : Program} {n k0 : Nat} {fr fr1 fr' : Fr} {H H1 : Heap} {f : FuncId} {S : List Item} {res : AV} {H' : Heap} {ops : Array Oper} {K : List (Nat × CallK)} {nt : List Nat}

/-- as 'commOK', for the order 'can', 'p' ahead of 'q' in it -/
def splits : List Nat → List Nat → (List Nat → Nat → Bool) → Bool
  | _, [], _ => true
  | A, i :: B, f => f A i && splits (A ++ [i]) B f
def commE (K : List (Nat × CallK)) (nt : List Nat) (ops : Array Oper) (can : List Nat) (p q : Nat) : Bool :=
  let cl := cloL ops.toList []
  lower ops.toList 0 && can.all (fun i => Nat.blt i ops.size) && (List.range ops.size).all (fun i => can.contains i) && decide can.Nodup &&
    splits [] can fun A i => A.all fun j => (cl.getD i []).contains j || (Nat.beq j p && Nat.beq i q) || indepAt K nt ops j i
theorem splits_spec : ∀ {A B : List Nat} {f : List Nat → Nat → Bool}, splits A B f = true → ∀ C i D, B = C ++ i :: D → f (A ++ C) i = true
  | A, [], f, _, C, i, D, e => by simp at e
  | A, x :: B, f, h, [], i, D, e => by
    simp only [splits, Bool.and_eq_true] at h
    simp only [List.nil_append, List.cons.injEq] at e
    obtain ⟨rfl, rfl⟩ := e
    simpa using h.1
  | A, x :: B, f, h, y :: C, i, D, e => by
    simp only [splits, Bool.and_eq_true] at h
    simp only [List.cons_append, List.cons.injEq] at e
    obtain ⟨rfl, rfl⟩ := e
    have := splits_spec h.2 C i D rfl
    simpa using this
/-- an order in which 'p' stands ahead of 'q' -/
inductive LinE (ops : Array Oper) (p q : Nat) : (Nat → Bool) → List Nat → Prop where
  | nil (listed : Nat → Bool) : (∀ i o, ops[i]? = some o → listed i = false → ∃ j, j ∈ dirs o ∧ listed j = false) → LinE ops p q listed []
  | cons (listed : Nat → Bool) (i : Nat) (o : Oper) (is : List Nat) : ops[i]? = some o → listed i = false → (∀ j, j ∈ dirs o → listed j = true) → (i = q → listed p = true) → LinE ops p q (fun j => Nat.beq j i || listed j) is → LinE ops p q listed (i :: is)
theorem Lin.ofListed {p q : Nat} {listed : Nat → Bool} {is : List Nat} (h : Lin ops listed is) : listed p = true → LinE ops p q listed is := by
  induction h with
  | nil listed hn => exact fun _ => .nil _ hn
  | cons listed i o is ho hl hd hlin ih => exact fun hp => .cons _ _ _ _ ho hl hd (fun _ => hp) (ih (by simp [hp]))
theorem Lin.either (p q : Nat) (hpq : p ≠ q) {listed : Nat → Bool} {is : List Nat} (h : Lin ops listed is) : LinE ops p q listed is ∨ LinE ops q p listed is := by
  induction h with
  | nil listed hn => exact .inl (.nil _ hn)
  | cons listed i o is ho hl hd hlin ih =>
    by_cases hp : i = p
    · subst hp
      exact .inl (.cons _ _ _ _ ho hl hd (fun e => absurd e hpq) (hlin.ofListed (by simp [Nat.beq_refl])))
    · by_cases hq : i = q
      · subst hq
        exact .inr (.cons _ _ _ _ ho hl hd (fun e => absurd e.symm hpq) (hlin.ofListed (by simp [Nat.beq_refl])))
      · rcases ih with h | h
        · exact .inl (.cons _ _ _ _ ho hl hd (fun e => absurd e hq) h)
        · exact .inr (.cons _ _ _ _ ho hl hd (fun e => absurd e hp) h)
theorem LinE.ev {can : List Nat} {p q : Nat} (hk : commE K nt ops can p q = true) {listed : Nat → Bool} {is : List Nat} (h : LinE ops p q listed is) :
    ∀ {fr : Fr} {H : Heap}, Closed ops listed → Ev P n K nt ops (can.filter fun i => !listed i) fr H fr' H' → Ev P n K nt ops is fr H fr' H' := by
  simp only [commE, Bool.and_eq_true, List.all_eq_true, List.mem_range, decide_eq_true_eq] at hk
  obtain ⟨⟨⟨⟨hlow, hlt⟩, hall⟩, hnd⟩, hk⟩ := hk
  induction h with
  | nil listed hn =>
    intro fr H hc he
    have : (can.filter fun i => !listed i) = [] := by
      have key : ∀ m i, i < m → i < ops.size → listed i = true := by
        intro m
        induction m with
        | zero => intro i hi; omega
        | succ m ih =>
          intro i hi hs
          cases hl : listed i with
          | true => rfl
          | false =>
            obtain ⟨j, hj, hl2⟩ := hn i ops[i] (Array.getElem?_eq_getElem hs) hl
            have hlt := lower_spec ops.toList 0 hlow i ops[i] (by simp [hs]) j hj
            rw [ih j (by omega) (by omega)] at hl2
            cases hl2
      rw [List.filter_eq_nil_iff]
      intro i hi
      rw [key (i + 1) i (by omega) (Nat.le_of_ble_eq_true (hlt i hi))]
      simp
    rw [this] at he
    exact he
  | cons listed i o is ho hl hd hpq hlin ih =>
    intro fr H hc he
    have his := (Array.getElem?_eq_some_iff.1 ho).1
    have hmem : i ∈ can := by simpa using hall i his
    obtain ⟨A, B, hAB⟩ := List.append_of_mem hmem
    have hnd2 := hnd
    rw [hAB, List.nodup_append] at hnd2
    have hiA : i ∉ A := fun h => hnd2.2.2 i h i (by simp) rfl
    have hiB : i ∉ B := (List.nodup_cons.1 hnd2.2.1).1
    have hu : (can.filter fun j => !listed j) = (A.filter fun j => !listed j) ++ i :: (B.filter fun j => !listed j) := by
      rw [hAB, List.filter_append, List.filter_cons]; simp [hl]
    have hne : ∀ j, j ≠ i → Nat.beq j i = false := fun j hj => by
      cases hq : Nat.beq j i with
      | true => exact absurd (Nat.eq_of_beq_eq_true hq) hj
      | false => rfl
    have hu2 : (can.filter fun j => !(Nat.beq j i || listed j)) = (A.filter fun j => !listed j) ++ (B.filter fun j => !listed j) := by
      rw [hAB, List.filter_append, List.filter_cons]
      simp only [Nat.beq_refl, Bool.true_or, Bool.not_true]
      congr 1
      · refine List.filter_congr fun j hj => ?_
        rw [hne j (fun e => hiA (e ▸ hj))]; simp
      · refine List.filter_congr fun j hj => ?_
        rw [hne j (fun e => hiB (e ▸ hj))]; simp
    have hclo := cloL_spec hc ops.toList [] (fun q o h => by simpa using h) (fun k l o e => by simp at e)
    rw [hu] at he
    have hsp := splits_spec hk A i B hAB
    simp only [List.nil_append, List.all_eq_true] at hsp
    have he2 := Ev.front (fun a ha => by
      rw [List.mem_filter] at ha
      have := hsp a ha.1
      rw [Bool.or_eq_true, Bool.or_eq_true] at this
      rcases this with (h1 | h1) | h1
      · exfalso
        rw [List.getD_eq_getElem?_getD] at h1
        cases e : (cloL ops.toList [])[i]? with
        | none => rw [e] at h1; simp at h1
        | some l =>
          rw [e] at h1
          have := hclo i l o e ho hd a (by simpa using h1)
          rw [this] at ha
          simp at ha
      · exfalso
        rw [Bool.and_eq_true] at h1
        have e1 := Nat.eq_of_beq_eq_true h1.1
        have e2 := Nat.eq_of_beq_eq_true h1.2
        have := hpq e2
        rw [e1, this] at ha
        simp at ha
      · exact h1) he
    obtain ⟨o', c, fr1, H1, e1, e2, e3, e4⟩ := Ev.cons.1 he2
    refine Ev.cons.2 ⟨o', c, fr1, H1, e1, e2, e3, ih ?_ (by rw [hu2]; exact e4)⟩
    intro k ok hk1 hk2 j hj
    rw [Bool.or_eq_true] at hk2 ⊢
    rcases hk2 with hk2 | hk2
    · have := Nat.eq_of_beq_eq_true hk2
      subst this
      rw [ho] at hk1; simp only [Option.some.injEq] at hk1; subst hk1
      exact .inr (hd j hj)
    · exact .inr (hc k ok hk1 hk2 j hj)
/-- a drawn region, two operations of which are shown in both orders -/
theorem Runs.regD2 {id : Nat} (p q : Nat) (can : List Nat) (K : List (Nat × CallK)) (nt : List Nat) {c c2 : Prop} {fr2 : Fr} {H2 : Heap} (hm : P.follows .mixedOrders = true) (hpq : Nat.beq p q = false)
    (hk : commE K nt ops (List.range ops.size) p q = true) (hk2 : commE K nt ops can q p = true)
    (h : Am.evR P n K nt ops (List.range ops.size) fr H = some (c, fr1, H1)) (h2 : Am.evR P n K nt ops can fr H = some (c2, fr2, H2)) (hc : c) (hc2 : c2)
    (hr : Runs P f n k0 S fr1 H1 res H') (hr2 : Runs P f n k0 S fr2 H2 res H') : Runs P f n k0 (.code (.region id ops true) :: S) fr H res H' := by
  intro b a w G ρ h1' h2' h3 hkk h4 cs
  have hst := step_region_draw (P := P) (id := id) (ops := ops) (b := b) (a := a) (k := S) (cs := cs) (w := w)
  rw [hm] at hst
  simp only [Region.schedule, Bool.true_or, if_true] at hst
  generalize w.tape w.drawn (.order b.fn id) = t at hst
  have hl := go_lin ops ops.size t (Array.replicate ops.size false) (by simp) (by
    unfold unl
    exact Nat.le_trans (List.length_filter_le ..) (by simp))
  have hcl : Closed ops fun i => (Array.replicate ops.size false).getD i false := fun k o _ e => by
    simp [Array.getD_eq_getD_getElem?, Array.getElem?_replicate] at e
    split at e <;> simp at e
  have hu : ∀ can : List Nat, can.all (fun i => Nat.blt i ops.size) = true → (can.filter fun i => !(Array.replicate ops.size false).getD i false) = can := by
    intro can hcan
    rw [List.filter_eq_self]
    intro i hi
    have := Nat.le_of_ble_eq_true ((List.all_eq_true.1 hcan) i hi)
    simp [Array.getD_eq_getD_getElem?, Array.getElem?_replicate]
    split <;> rfl
  have hall : ∀ can p q, commE K nt ops can p q = true → can.all (fun i => Nat.blt i ops.size) = true := by
    intro can p q h
    simp only [commE, Bool.and_eq_true] at h
    exact h.1.1.1.2
  have hR : Runs P f n k0 (.inRegion ops (Region.linearise .any ops t) :: S) fr H res H' := by
    rcases hl.either p q (fun e => by subst e; rw [Nat.beq_refl] at hpq; cases hpq) with hl | hl
    · obtain ⟨c', e1, e2⟩ := hl.ev (P := P) (n := n) (fr := fr) (H := H) (fr' := fr1) (H' := H1) hk hcl (by rw [hu _ (hall _ _ _ hk)]; exact ⟨c, h, hc⟩)
      exact Runs.rest K nt e1 e2 hr
    · obtain ⟨c', e1, e2⟩ := hl.ev (P := P) (n := n) (fr := fr) (H := H) (fr' := fr2) (H' := H2) hk2 hcl (by rw [hu _ (hall _ _ _ hk2)]; exact ⟨c2, h2, hc2⟩)
      exact Runs.rest K nt e1 e2 hr2
  obtain ⟨v, w', G', ρ', frm, s1, s2, s3, s4⟩ := hR b a w.drew G ρ h1' h2' h3 hkk ⟨h4.size, fun i => ⟨(h4.fr i).1.keep (drew_keeps G w), (h4.fr i).2⟩, drew_br h4.br, drew_wi h4.wi⟩ cs
  exact ⟨v, w', G', ρ', frm, .head hst s1, s2, s3, (drew_trans G w).trans s4.1, s4.2⟩
end Go.Am
set_option linter.unusedSectionVars false
set_option linter.unusedVariables false
set_option linter.unusedSimpArgs false
namespace Go.Am
open Go
variable [Tab]
variable {P : Program} {n k0 : Nat} {fr fr1 fr2 fr' : Fr} {H H1 H2 : Heap} {f : FuncId} {S : List Item} {res : AV} {H' : Heap} {ops : Array Oper} {K : List (Nat × CallK)} {nt : List Nat}

def adrB (v : AV) (d : Nat) : Bool := match v with
  | .ptr id _ => Nat.beq id d
  | _ => false
def mk (ck : Option CallK) : Option Nat := match ck with
  | some k => k.L.head?
  | none => none
/-- does an operation touch the block that its mark names? -/
def chk (P : Program) (fr : Fr) (H : Heap) (o : Oper) (ck : Option CallK) : Bool := match mk ck with
  | none => true
  | some d => match o.op with
    | .load t a => adrB (opd P t fr a) d
    | .store t A _ => adrB (opd P t fr A) d
    | .alloc _ => Nat.beq H.length d
    | _ => true
def isRd (o : Oper) : Bool := match o.op with
  | .load .. => true
  | _ => false
def isWr (o : Oper) : Bool := match o.op with
  | .store .. => true
  | .alloc _ => true
  | _ => false
def apart (ck1 ck2 : Option CallK) : Bool := match mk ck1, mk ck2 with
  | some a, some b => !(Nat.beq a b)
  | _, _ => false
theorem adrB_some {v : AV} {d : Nat} (h : adrB v d = true) : ∃ off, v = .ptr d off := by
  cases v <;> simp [adrB] at h
  exact ⟨_, by rw [h]⟩
theorem chk_eq {o : Oper} {ck : Option CallK} (h : ∀ t, t ∈ opSlots o → fr' t = fr t) (hl : H1.length = H.length ∨ hcl ck o ≠ 2 ∨ o.op.operands = #[] ∧ False) : chk P fr' H1 o ck = chk P fr H o ck := by
  have hx := opd_eq (P := P) h
  unfold chk
  split
  · rfl
  · split
    · rename_i e; rw [hx _ (by simp [e, Op.operands])]
    · rename_i e; rw [hx _ (by simp [e, Op.operands])]
    · rename_i e
      rcases hl with hl | hl | hl
      · rw [hl]
      · exact absurd (by simp [hcl, e]) hl
      · exact absurd hl.2 id
    · rfl
theorem mk_some {ck : Option CallK} {d : Nat} (h : mk ck = some d) : ∃ k, ck = some k ∧ hMark ck = true := by
  cases ck with
  | none => simp [mk] at h
  | some k =>
    refine ⟨k, rfl, ?_⟩
    simp only [mk] at h
    unfold hMark
    cases e : k.L with
    | nil => rw [e] at h; simp at h
    | cons => simp [e]
/-- a read of a block hangs on that block alone -/
theorem load_re {tk : Bool} {ck : Option CallK} {o : Oper} {c : Prop} {d : Nat} (hd : mk ck = some d) (ho : isRd o = true) (hc : chk P fr H o ck = true) (hh : H2[d]? = H[d]?) (h : stepE P n tk ck ops o fr H = some (c, fr1, H1)) : H1 = H ∧ stepE P n tk ck ops o fr H2 = some (c, fr1, H2) := by
  obtain ⟨k, rfl, _⟩ := mk_some hd
  unfold isRd at ho
  split at ho
  case h_2 => cases ho
  rename_i t a e
  unfold chk at hc
  rw [hd, e] at hc
  obtain ⟨off, hp⟩ := adrB_some hc
  have key : ∀ X : Heap, evM P tk (some k) fr X o = loadK P fr X t a k.res := fun X => by unfold evM; rw [e]
  have re : loadK P fr H2 t a k.res = reH H2 (loadK P fr H t a k.res) := by
    unfold loadK
    rw [hp]
    simp only [hh]
    split
    · split <;> rfl
    · rfl
  unfold stepE at h ⊢
  rw [key] at h ⊢
  rw [re]
  split at h
  · split at h
    · rename_i e2
      rw [e2]
      simp only [reH]
      have e3 := loadK_h e2
      split at h
      · rw [Bool.cond_eq_ite] at h
        split at h
        · rename_i hlt
          rw [AV.force_eq] at h
          simp only [Option.some.injEq, Prod.mk.injEq] at h
          obtain ⟨rfl, rfl, rfl⟩ := h
          refine ⟨e3.2, ?_⟩
          simp only [hlt, cond_true, AV.force_eq]
        · simp at h
      · simp only [Option.some.injEq, Prod.mk.injEq] at h
        obtain ⟨rfl, rfl, rfl⟩ := h
        exact ⟨e3.2, rfl⟩
    · rename_i e2
      exact absurd (loadK_h e2).1 (by simp)
    · simp at h
  · split at h
    · rw [Bool.cond_eq_ite] at h
      split at h
      · rename_i hlt
        simp only [Option.some.injEq, Prod.mk.injEq] at h
        obtain ⟨rfl, rfl, rfl⟩ := h
        refine ⟨rfl, ?_⟩
        simp only [hlt, cond_true]
      · simp at h
    · simp only [Option.some.injEq, Prod.mk.injEq] at h
      obtain ⟨rfl, rfl, rfl⟩ := h
      exact ⟨rfl, rfl⟩
  · simp at h
/-- a write changes its block alone -/
theorem write_at {tk : Bool} {ck : Option CallK} {o : Oper} {c : Prop} {d : Nat} (hd : mk ck = some d) (ho : isWr o = true) (hc : chk P fr H o ck = true) (h : stepE P n tk ck ops o fr H = some (c, fr1, H1)) (e : Nat) (he : e ≠ d) : H1[e]? = H[e]? := by
  obtain ⟨k, rfl, hm⟩ := mk_some hd
  have hov : ∀ X : Heap, (∀ t a, o.op ≠ .load t a) → evM P tk (some k) fr X o = evN P tk (some k) fr X o := fun X hn => by
    unfold evM
    split
    · rename_i t a _ e1 _; exact absurd e1 (hn _ _)
    · unfold ovr
      rw [hm, Bool.or_true]; rfl
  have key : ∀ (c : Prop) (v : AV) (u : Option (Nat × AV)) (X : Heap), evN P tk (some k) fr H o = some (c, v, u, X) → X[e]? = H[e]? := by
    intro c v u X hx
    unfold isWr at ho
    unfold chk at hc
    rw [hd] at hc
    split at ho
    · rename_i t A x eo
      rw [eo] at hc
      obtain ⟨off, hp⟩ := adrB_some hc
      unfold evN at hx
      rw [eo] at hx
      simp only [storeM, hp] at hx
      rw [AV.force_eq] at hx
      split at hx
      · rw [Bool.cond_eq_ite] at hx
        split at hx
        · split at hx
          · rw [AV.force_eq, setL_eq] at hx
            simp only [Option.some.injEq, Prod.mk.injEq] at hx
            obtain ⟨_, _, _, rfl⟩ := hx
            exact List.getElem?_set_ne (Ne.symm he)
          · rw [setL_eq] at hx
            simp only [Option.some.injEq, Prod.mk.injEq] at hx
            obtain ⟨_, _, _, rfl⟩ := hx
            exact List.getElem?_set_ne (Ne.symm he)
        · simp at hx
      · simp at hx
    · rename_i t eo
      rw [eo] at hc
      have hl := Nat.eq_of_beq_eq_true hc
      unfold evN at hx
      rw [eo] at hx
      simp only at hx
      split at hx
      · rw [cellsF_eq, litLen_eq, snocL_eq] at hx
        simp only [Option.some.injEq, Prod.mk.injEq] at hx
        obtain ⟨_, _, _, rfl⟩ := hx
        rcases Nat.lt_or_ge e H.length with h1 | h1
        · rw [List.getElem?_append_left h1]
        · rw [List.getElem?_eq_none (by rw [List.length_append, List.length_cons, List.length_nil]; omega), List.getElem?_eq_none h1]
      · simp at hx
    · cases ho
  have hn : ∀ t a, o.op ≠ .load t a := fun t a e1 => by unfold isWr at ho; rw [e1] at ho; cases ho
  unfold stepE at h
  rw [hov H hn] at h
  split at h
  · split at h
    · rename_i e2
      split at h
      · rw [Bool.cond_eq_ite] at h
        split at h
        · rw [AV.force_eq] at h
          simp only [Option.some.injEq, Prod.mk.injEq] at h
          obtain ⟨_, _, rfl⟩ := h
          exact key _ _ _ _ e2
        · simp at h
      · simp only [Option.some.injEq, Prod.mk.injEq] at h
        obtain ⟨_, _, rfl⟩ := h
        exact key _ _ _ _ e2
    · rename_i e2
      split at h
      · rw [Bool.cond_eq_ite] at h
        split at h
        · rw [AV.force_eq] at h
          simp only [Option.some.injEq, Prod.mk.injEq] at h
          obtain ⟨_, _, rfl⟩ := h
          exact key _ _ _ _ e2
        · simp at h
      · simp only [Option.some.injEq, Prod.mk.injEq] at h
        obtain ⟨_, _, rfl⟩ := h
        exact key _ _ _ _ e2
    · simp at h
  · split at h
    · rw [Bool.cond_eq_ite] at h
      split at h
      · simp only [Option.some.injEq, Prod.mk.injEq] at h
        obtain ⟨_, _, rfl⟩ := h
        rfl
      · simp at h
    · simp only [Option.some.injEq, Prod.mk.injEq] at h
      obtain ⟨_, _, rfl⟩ := h
      rfl
  · simp at h
def slotsIndep (ops : Array Oper) (tk1 tk2 : Bool) (o1 o2 : Oper) : Bool :=
  (writes tk1 o1).all (fun t => !(slotsOf ops o2).contains t && !(writes tk2 o2).contains t) && (writes tk2 o2).all (fun t => !(slotsOf ops o1).contains t)
def indepX (ops : Array Oper) (tk1 tk2 : Bool) (ck1 ck2 : Option CallK) (o1 o2 : Oper) : Bool :=
  indep ops tk1 tk2 ck1 ck2 o1 o2 || (slotsIndep ops tk1 tk2 o1 o2 && apart ck1 ck2 && (isRd o1 && isWr o2 || isWr o1 && isRd o2))
theorem swapX {tk1 tk2 : Bool} {ck1 ck2 : Option CallK} {o1 o2 : Oper} {c1 c2 : Prop} (hi : indepX ops tk1 tk2 ck1 ck2 o1 o2 = true) (k1 : chk P fr H o1 ck1 = true) (h1 : stepE P n tk1 ck1 ops o1 fr H = some (c1, fr1, H1)) (k2 : chk P fr1 H1 o2 ck2 = true) (h2 : stepE P n tk2 ck2 ops o2 fr1 H1 = some (c2, fr2, H2)) :
    ∃ fr1' H1', chk P fr H o2 ck2 = true ∧ stepE P n tk2 ck2 ops o2 fr H = some (c2, fr1', H1') ∧ chk P fr1' H1' o1 ck1 = true ∧ stepE P n tk1 ck1 ops o1 fr1' H1' = some (c1, fr2, H2) := by
  unfold indepX at hi
  rw [Bool.or_eq_true] at hi
  have slots : ∀ {o : Oper} {t : Nat}, t ∈ opSlots o → t ∈ slotsOf ops o := fun h => by simp [slotsOf, h]
  rcases hi with hi | hi
  · unfold indep at hi
    rw [Bool.or_eq_true] at hi
    rcases hi with hi | hi
    · obtain ⟨d1, a1, rfl, a2, a3, a4⟩ := stepE_spec h1
      obtain ⟨d2, b1, rfl, b2, b3, b4⟩ := stepE_spec h2
      simp only [indep0, Bool.and_eq_true, List.all_eq_true, Bool.not_eq_true', Bool.or_eq_true, List.contains_eq_mem, decide_eq_false_iff_not] at hi
      obtain ⟨⟨i1, i2⟩, i3⟩ := hi
      have hc : apL (apL fr d2) d1 = apL (apL fr d1) d2 := apL_comm (fun p q hp hq e => (i1 p.1 (a1 p hp)).2 (e ▸ b1 q hq)) fr
      have m2 : ∀ t, t ∈ slotsOf ops o2 → fr t = apL fr d1 t := fun t ht => (apL_ne fun p hp e => (i1 p.1 (a1 p hp)).1 (e ▸ ht)).symm
      have m1 : ∀ t, t ∈ slotsOf ops o1 → apL fr d2 t = fr t := fun t ht => apL_ne fun p hp e => i2 p.1 (b1 p hp) (e ▸ ht)
      rcases i3 with (i3 | i3) | i3
      · have z := Nat.eq_of_beq_eq_true i3
        have e1 : H1 = H := a3 (by rw [z]; rfl)
        subst e1
        exact ⟨_, _, by rw [← k2]; exact chk_eq (fun t ht => m2 t (slots ht)) (.inl rfl), b2 fr m2, by rw [← k1]; exact chk_eq (fun t ht => m1 t (slots ht)) (.inr (.inl (by rw [z]; decide))), by rw [a4 z _ H2 m1, hc]⟩
      · have z := Nat.eq_of_beq_eq_true i3
        have e1 : H2 = H1 := b3 (by rw [z]; rfl)
        subst e1
        exact ⟨_, _, by rw [← k2]; exact chk_eq (fun t ht => m2 t (slots ht)) (.inr (.inl (by rw [z]; decide))), b4 z fr H m2, by rw [← k1]; exact chk_eq (fun t ht => m1 t (slots ht)) (.inl rfl), by rw [a2 _ m1, hc]⟩
      · have e1 : H1 = H := a3 i3.1
        subst e1
        have e2 : H2 = H1 := b3 i3.2
        subst e2
        exact ⟨_, _, by rw [← k2]; exact chk_eq (fun t ht => m2 t (slots ht)) (.inl rfl), b2 fr m2, by rw [← k1]; exact chk_eq (fun t ht => m1 t (slots ht)) (.inl rfl), by rw [a2 _ m1, hc]⟩
    · obtain ⟨fr1', H1', s1, s2⟩ := Am.swap (ops := ops) (by unfold indep; rw [hi, Bool.or_true]) h1 h2
      refine ⟨fr1', H1', ?_, s1, ?_, s2⟩
      · unfold indepMv at hi
        split at hi
        · rfl
        · cases hi
      · unfold indepMv at hi
        split at hi
        · rfl
        · cases hi
  · simp only [Bool.and_eq_true, Bool.or_eq_true] at hi
    obtain ⟨⟨i1, i2⟩, i3⟩ := hi
    unfold apart at i2
    split at i2
    case h_2 => cases i2
    rename_i x y ex ey
    have hxy : x ≠ y := fun e => by rw [e, Nat.beq_refl] at i2; cases i2
    obtain ⟨d1, a1, rfl, a2, a3, a4⟩ := stepE_spec h1
    obtain ⟨d2, b1, rfl, b2, b3, b4⟩ := stepE_spec h2
    simp only [slotsIndep, Bool.and_eq_true, List.all_eq_true, Bool.not_eq_true', List.contains_eq_mem, decide_eq_false_iff_not] at i1
    obtain ⟨i1, i4⟩ := i1
    have hc : apL (apL fr d2) d1 = apL (apL fr d1) d2 := apL_comm (fun p q hp hq e => (i1 p.1 (a1 p hp)).2 (e ▸ b1 q hq)) fr
    have m2 : ∀ t, t ∈ slotsOf ops o2 → fr t = apL fr d1 t := fun t ht => (apL_ne fun p hp e => (i1 p.1 (a1 p hp)).1 (e ▸ ht)).symm
    have m1 : ∀ t, t ∈ slotsOf ops o1 → apL fr d2 t = fr t := fun t ht => apL_ne fun p hp e => i4 p.1 (b1 p hp) (e ▸ ht)
    rcases i3 with ⟨r1, w2⟩ | ⟨w1, r2⟩
    · obtain ⟨e1, _⟩ := load_re (H2 := H) ex r1 k1 rfl h1
      subst e1
      have ht := write_at ey w2 k2 h2 x hxy
      have k2' : chk P fr H1 o2 ck2 = true := by rw [← k2]; exact chk_eq (fun t ht => m2 t (slots ht)) (.inl rfl)
      have hz : hcl ck1 o1 ≠ 2 := by
        unfold isRd at r1; unfold hcl
        split at r1
        · rename_i e; rw [e]; exact show (1 : Nat) ≠ 2 by omega
        · cases r1
      have k1' : chk P (apL fr d2) H1 o1 ck1 = true := by rw [← k1]; exact chk_eq (fun t ht => m1 t (slots ht)) (.inl rfl)
      refine ⟨_, _, k2', b2 fr m2, by rw [← k1]; exact chk_eq (fun t ht => m1 t (slots ht)) (.inr (.inl hz)), ?_⟩
      have s := a2 _ m1
      rw [(load_re ex r1 k1' ht s).2, hc]
    · have ht := write_at ex w1 k1 h1 y (Ne.symm hxy)
      have k2' : chk P (apL fr d1) H o2 ck2 = true := by
        have hz : hcl ck2 o2 ≠ 2 := by
          unfold isRd at r2; unfold hcl
          split at r2
          · rename_i e; rw [e]; exact show (1 : Nat) ≠ 2 by omega
          · cases r2
        rw [← k2]; exact chk_eq (fun t _ => rfl) (.inr (.inl hz))
      obtain ⟨e2, s2⟩ := load_re (H2 := H) ey r2 k2 ht.symm h2
      subst e2
      obtain ⟨d3, c1', e3, c2', c3, c4⟩ := stepE_spec s2
      have hz : hcl ck2 o2 ≠ 2 := by
        unfold isRd at r2; unfold hcl
        split at r2
        · rename_i e; rw [e]; exact show (1 : Nat) ≠ 2 by omega
        · cases r2
      refine ⟨apL fr d2, H, by rw [← k2]; exact chk_eq (fun t ht => m2 t (slots ht)) (.inr (.inl hz)), ?_, by rw [← k1]; exact chk_eq (fun t ht => m1 t (slots ht)) (.inl rfl), by rw [a2 _ m1, hc]⟩
      have t2 := b2 fr m2
      exact (load_re ey r2 (by rw [← k2]; exact chk_eq (fun t ht => m2 t (slots ht)) (.inr (.inl hz))) ht.symm t2).2
def evX (P : Program) (n : Nat) (K : List (Nat × CallK)) (nt : List Nat) (ops : Array Oper) : List Nat → Fr → Heap → R3
  | [], fr, H => some (True, fr, H)
  | i :: is, fr, H => match ops[i]? with
    | some o => bif chk P fr H o (ckOf K i) then (match stepE P n (!(nt.contains i)) (ckOf K i) ops o fr H with
      | some (c, fr1, H1) => match evX P n K nt ops is fr1 H1 with
        | some (c2, fr2, H2) => some (c ∧ c2, fr2, H2)
        | none => none
      | none => none) else none
    | none => none
def EvX (P : Program) (n : Nat) (K : List (Nat × CallK)) (nt : List Nat) (ops : Array Oper) (is : List Nat) (fr : Fr) (H : Heap) (fr' : Fr) (H' : Heap) : Prop := ∃ c : Prop, evX P n K nt ops is fr H = some (c, fr', H') ∧ c
theorem EvX.cons {i : Nat} {is : List Nat} : EvX P n K nt ops (i :: is) fr H fr' H' ↔ ∃ (o : Oper) (c : Prop) (fr1 : Fr) (H1 : Heap), ops[i]? = some o ∧ chk P fr H o (ckOf K i) = true ∧ stepE P n (!(nt.contains i)) (ckOf K i) ops o fr H = some (c, fr1, H1) ∧ c ∧ EvX P n K nt ops is fr1 H1 fr' H' := by
  constructor
  · rintro ⟨c, h, hc⟩
    unfold evX at h
    split at h
    · rename_i o ho
      rw [Bool.cond_eq_ite] at h
      split at h
      · rename_i hk
        split at h
        · rename_i c1 fr2 H2 h1
          split at h
          · rename_i c2 fr3 H3 h2
            simp only [Option.some.injEq, Prod.mk.injEq] at h
            obtain ⟨rfl, rfl, rfl⟩ := h
            exact ⟨o, c1, fr2, H2, ho, hk, h1, hc.1, c2, h2, hc.2⟩
          · simp at h
        · simp at h
      · simp at h
    · simp at h
  · rintro ⟨o, c, fr1, H1, h1, hk, h2, hc, c2, h3, hc2⟩
    refine ⟨c ∧ c2, ?_, hc, hc2⟩
    unfold evX
    rw [h1]; simp only
    rw [hk, cond_true, h2]; simp only
    rw [h3]
theorem EvX.ev : ∀ {is : List Nat} {fr : Fr} {H : Heap}, EvX P n K nt ops is fr H fr' H' → Ev P n K nt ops is fr H fr' H'
  | [], fr, H, h => h
  | i :: is, fr, H, h => by
    obtain ⟨o, c, fr1, H1, h1, hk, h2, hc, h3⟩ := EvX.cons.1 h
    exact Ev.cons.2 ⟨o, c, fr1, H1, h1, h2, hc, EvX.ev h3⟩
def indepXat (K : List (Nat × CallK)) (nt : List Nat) (ops : Array Oper) (i j : Nat) : Bool := match ops[i]?, ops[j]? with
  | some o1, some o2 => indepX ops (!(nt.contains i)) (!(nt.contains j)) (ckOf K i) (ckOf K j) o1 o2
  | _, _ => false
theorem EvX.swap {i j : Nat} {is : List Nat} (hi : indepXat K nt ops i j = true) (h : EvX P n K nt ops (i :: j :: is) fr H fr' H') : EvX P n K nt ops (j :: i :: is) fr H fr' H' := by
  obtain ⟨o1, c1, fr1, H1, e1, q1, s1, k1, h⟩ := EvX.cons.1 h
  obtain ⟨o2, c2, fr2, H2, e2, q2, s2, k2, h⟩ := EvX.cons.1 h
  simp only [indepXat, e1, e2] at hi
  obtain ⟨fr1', H1', q3, s3, q4, s4⟩ := swapX hi q1 s1 q2 s2
  exact EvX.cons.2 ⟨o2, c2, fr1', H1', e2, q3, s3, k2, EvX.cons.2 ⟨o1, c1, fr2, H2, e1, q4, s4, k1, h⟩⟩
theorem EvX.front {i : Nat} {B : List Nat} : ∀ {A : List Nat} {fr : Fr} {H : Heap}, (∀ a, a ∈ A → indepXat K nt ops a i = true) → EvX P n K nt ops (A ++ i :: B) fr H fr' H' → EvX P n K nt ops (i :: (A ++ B)) fr H fr' H'
  | [], fr, H, _, h => h
  | a :: A, fr, H, hA, h => by
    obtain ⟨o1, c1, fr1, H1, e1, q1, s1, k1, h⟩ := EvX.cons.1 h
    have h2 := EvX.front (fun b hb => hA b (by simp [hb])) h
    exact EvX.swap (hA a (by simp)) (EvX.cons.2 ⟨o1, c1, fr1, H1, e1, q1, s1, k1, h2⟩)
def commX (K : List (Nat × CallK)) (nt : List Nat) (ops : Array Oper) : Bool :=
  let cl := cloL ops.toList []
  lower ops.toList 0 && (List.range ops.size).all fun i => (List.range i).all fun j => (cl.getD i []).contains j || indepXat K nt ops j i
theorem Lin.evX (hk : commX K nt ops = true) {listed : Nat → Bool} {is : List Nat} (h : Lin ops listed is) : ∀ {fr : Fr} {H : Heap}, Closed ops listed → EvX P n K nt ops (unl ops listed) fr H fr' H' → EvX P n K nt ops is fr H fr' H' := by
  simp only [commX, Bool.and_eq_true, List.all_eq_true, List.mem_range] at hk
  obtain ⟨hlow, hk⟩ := hk
  induction h with
  | nil listed hn =>
    intro fr H hc he
    have : unl ops listed = [] := by
      have key : ∀ m i, i < m → i < ops.size → listed i = true := by
        intro m
        induction m with
        | zero => intro i hi; omega
        | succ m ih =>
          intro i hi hs
          cases hl : listed i with
          | true => rfl
          | false =>
            obtain ⟨j, hj, hl2⟩ := hn i ops[i] (Array.getElem?_eq_getElem hs) hl
            have hlt := lower_spec ops.toList 0 hlow i ops[i] (by simp [hs]) j hj
            rw [ih j (by omega) (by omega)] at hl2
            cases hl2
      unfold unl
      rw [List.filter_eq_nil_iff]
      intro i hi
      rw [key (i + 1) i (by omega) (by simpa using hi)]
      simp
    rw [this] at he
    exact he
  | cons listed i o is ho hl hd hlin ih =>
    intro fr H hc he
    have his := (Array.getElem?_eq_some_iff.1 ho).1
    have hsplit : List.range ops.size = List.range i ++ i :: List.range' (i + 1) (ops.size - (i + 1)) := by
      rw [List.range_eq_range', List.range_eq_range']
      have h1 : List.range' 0 ops.size = List.range' 0 i ++ List.range' (0 + i) (ops.size - i) := by
        rw [List.range'_append_1]; congr; omega
      rw [h1, Nat.zero_add]
      congr 1
      have : ops.size - i = (ops.size - (i + 1)) + 1 := by omega
      rw [this, List.range'_succ]
    have hu : unl ops listed = ((List.range i).filter fun j => !listed j) ++ i :: ((List.range' (i + 1) (ops.size - (i + 1))).filter fun j => !listed j) := by
      unfold unl
      rw [hsplit, List.filter_append, List.filter_cons]
      simp [hl]
    have hu2 : unl ops (fun j => Nat.beq j i || listed j) = ((List.range i).filter fun j => !listed j) ++ ((List.range' (i + 1) (ops.size - (i + 1))).filter fun j => !listed j) := by
      unfold unl
      rw [hsplit, List.filter_append, List.filter_cons]
      have hb : Nat.beq i i = true := Nat.beq_refl i
      simp only [hb, Bool.true_or, Bool.not_true]
      have hne : ∀ j, j ≠ i → Nat.beq j i = false := fun j hj => by
        cases hq : Nat.beq j i with
        | true => exact absurd (Nat.eq_of_beq_eq_true hq) hj
        | false => rfl
      congr 1
      · refine List.filter_congr fun j hj => ?_
        rw [hne j (by have := List.mem_range.1 hj; omega)]; simp
      · refine List.filter_congr fun j hj => ?_
        rw [hne j (by have := List.mem_range'_1.1 hj; omega)]; simp
    have hclo := cloL_spec hc ops.toList [] (fun q o h => by simpa using h) (fun k l o e => by simp at e)
    rw [hu] at he
    have he2 := EvX.front (fun a ha => by
      rw [List.mem_filter, List.mem_range] at ha
      have := hk i his a ha.1
      rw [Bool.or_eq_true] at this
      rcases this with h1 | h1
      · exfalso
        rw [List.getD_eq_getElem?_getD] at h1
        cases e : (cloL ops.toList [])[i]? with
        | none => rw [e] at h1; simp at h1
        | some l =>
          rw [e] at h1
          have := hclo i l o e ho hd a (by simpa using h1)
          rw [this] at ha
          simp at ha
      · exact h1) he
    obtain ⟨o', c, fr1, H1, e1, q1, e2, e3, e4⟩ := EvX.cons.1 he2
    refine EvX.cons.2 ⟨o', c, fr1, H1, e1, q1, e2, e3, ih ?_ (by rw [hu2]; exact e4)⟩
    intro k ok hk1 hk2 j hj
    rw [Bool.or_eq_true] at hk2 ⊢
    rcases hk2 with hk2 | hk2
    · have := Nat.eq_of_beq_eq_true hk2
      subst this
      rw [ho] at hk1; simp only [Option.some.injEq] at hk1; subst hk1
      exact .inr (hd j hj)
    · exact .inr (hc k ok hk1 hk2 j hj)
theorem Imp.bad (a : AV) : Imp a .bad := fun _ _ _ _ _ => ⟨.bad _ _, fun T _ => by simp [Sp]⟩

end Go.Am
set_option linter.unusedSectionVars false
set_option linter.unusedVariables false
set_option linter.unusedSimpArgs false
namespace Go.Am
open Go
variable [Tab]
variable {P : Program} {n k0 : Nat} {fr fr1 fr2 fr' : Fr} {H H1 H2 : Heap} {f : FuncId} {S : List Item} {res : AV} {H' : Heap} {ops : Array Oper} {o : Oper} {i : Nat} {rest : List Nat}

/-- a row's cells when it has grown -/
abbrev grown (blk : List AV) (len m sz cap : Nat) (el : Nat → AV) : List AV := blk.take (len * sz) ++ ((cpy m el).map un1 ++ List.replicate ((cap - (len + m)) * sz) .bad)
end Go.Am
set_option linter.unusedSectionVars false
set_option linter.unusedVariables false
namespace Go.Am
open Go
variable [Tab]
variable {P : Program} {n k0 : Nat} {fr fr1 : Fr} {H H1 : Heap} {f : FuncId} {S : List Item} {res : AV} {H' : Heap} {ops : Array Oper}
/-- named slots that are as they are -/
theorem zag {fr : Fr} : ∀ {l : List (Nat × AV)}, l.map (fun p => fr p.1) = l.map (·.2) → agree fr l
  | [], _ => trivial
  | (j, v) :: r, h => by
    simp only [List.map_cons, List.cons.injEq] at h
    exact ⟨.inl h.1, zag h.2⟩
theorem zl {a b : Nat} (h : Nat.ble a b = true) : a ≤ b := Nat.le_of_ble_eq_true h
/-- what is known of a test -/
theorem zg : (∀ (p : Prop) [Decidable p], (decide p = true) = p) ∧ (∀ (p : Prop) [Decidable p], (decide p = false) = ¬ p) ∧ (∀ b : Bool, ((!b) = true) = (b = false)) ∧ (∀ b : Bool, ((!b) = false) = (b = true)) ∧
    (∀ (α : Type) [BEq α] [LawfulBEq α] (a b : α), ((a == b) = true) = (a = b)) ∧ (∀ (α : Type) [BEq α] [LawfulBEq α] (a b : α), ((a == b) = false) = (a ≠ b)) ∧ (∀ (α : Type) [BEq α] [LawfulBEq α] (a b : α), ((a != b) = true) = (a ≠ b)) ∧ (∀ (α : Type) [BEq α] [LawfulBEq α] (a b : α), ((a != b) = false) = (a = b)) ∧
    (∀ (n : Nat) (b : Int), (n : Int).tmod b = (n : Int) % b) ∧ (∀ (n : Nat) (b : Int), (n : Int).tdiv b = (n : Int) / b) ∧ (∀ a b : Int, (¬ a < b) = (b ≤ a)) ∧ (∀ a b : Int, (¬ a ≤ b) = (b < a)) := by
  refine ⟨fun p _ => by simp, fun p _ => by simp, fun b => by simp, fun b => by simp, fun α _ _ a b => by simp, fun α _ _ a b => by simp, fun α _ _ a b => by simp, fun α _ _ a b => by simp, fun n b => tmodN n b, fun n b => tdivN n b, fun a b => by simp, fun a b => by simp⟩
end Go.Am
namespace Go.Proofs
open Go.Shelf
def Tryz.lays169_ren : Go.Shelf.Ren := ⟨fun | 169 => 71 | n => n, fun | 70 => 105 | 9 => 9 | 0 => 0 | 72 => 107 | 37 => 23 | 127 => 148 | 3 => 3 | 5 => 5 | n => n, fun | n => n⟩
theorem Tryz.lays169 : Go.Proofs.Lays.n169 Tryz.prog Tryz.lays169_ren := {
  mixed := by kernel_rfl
  f169 := Tryz.func71.trans (congrArg some (by kernel_rfl))
  t0 := Tryz.underlying0
  a0 := Tryz.isAgg0
  z0 := Tryz.sizeOf0
  v0 := Tryz.zeroValue0
  t3 := Tryz.underlying3
  a3 := Tryz.isAgg3
  z3 := Tryz.sizeOf3
  v3 := Tryz.zeroValue3
  t9 := Tryz.underlying9
  a9 := Tryz.isAgg9
  z9 := Tryz.sizeOf9
  v9 := Tryz.zeroValue9
  t37 := Tryz.underlying23
  a37 := Tryz.isAgg23
  z37 := Tryz.sizeOf23
  v37 := Tryz.zeroValue23
  t70 := Tryz.underlying105
  a70 := Tryz.isAgg105
  z70 := Tryz.sizeOf105
  v70 := Tryz.zeroValue105
  t72 := Tryz.underlying107
  a72 := Tryz.isAgg107
  z72 := Tryz.sizeOf107
  v72 := Tryz.zeroValue107
  t127 := Tryz.underlying148
  a127 := Tryz.isAgg148
  z127 := Tryz.sizeOf148
  v127 := Tryz.zeroValue148 }
theorem Tryz.Builder_Extra_169 : Builder.Extra Tryz.prog Tryz.lays169_ren := {
  sizeBuilder := by kernel_rfl
  liesBuilder := by kernel_rfl
  t5 := Tryz.underlying5
  a5 := Tryz.isAgg5
  z5 := Tryz.sizeOf5
  v5 := Tryz.zeroValue5
  infoByte := by kernel_rfl
  cellsByte := by kernel_rfl
  sizeByte := by kernel_rfl
  neB5 := by decide }
open Go.RowKit in
/-- (*strings.Builder).String: "String returns the accumulated string.": WHATEVER THE BUILDER HOLDS. (LAID: no walk: one application.) -/
theorem Tryz.Builder_String_any (B b : Nat) (l : List UInt8) (w : World) (h : Lib.IsBuilder 107 5 B b (Lib.byteCells l) w) (hBw : B ≤ w.heap.size) :
    Calls Tryz.prog 71 #[.pointer (some ⟨b, 0, none⟩)] w fun e w' => e = .returned (.string ⟨l.toArray⟩) ∧ Below B w w' := Any.Builder_String_any Tryz.lays169 Tryz.Builder_Extra_169 B b l w h hBw
def Tryz.lays156_ren : Go.Shelf.Ren := ⟨fun | 156 => 26 | 165 => 69 | 166 => 70 | 169 => 71 | 240 => 110 | 241 => 111 | 276 => 146 | 277 => 147 | n => n, fun | 31 => 53 | 9 => 9 | 3 => 3 | 4 => 4 | 0 => 0 | 20 => 20 | 72 => 107 | 76 => 111 | 70 => 105 | 37 => 23 | 75 => 110 | 127 => 148 | 164 => 171 | 5 => 5 | 80 => 113 | n => n, fun | n => n⟩
theorem Tryz.lays156 : Go.Proofs.Lays.n156 Tryz.prog Tryz.lays156_ren := {
  mixed := by kernel_rfl
  f156 := Tryz.func26.trans (congrArg some (by kernel_rfl))
  f165 := Tryz.func69.trans (congrArg some (by kernel_rfl))
  f166 := Tryz.func70.trans (congrArg some (by kernel_rfl))
  f169 := Tryz.func71.trans (congrArg some (by kernel_rfl))
  f240 := Tryz.func110.trans (congrArg some (by kernel_rfl))
  f241 := Tryz.func111.trans (congrArg some (by kernel_rfl))
  f276 := Tryz.func146.trans (congrArg some (by kernel_rfl))
  f277 := Tryz.func147.trans (congrArg some (by kernel_rfl))
  t0 := Tryz.underlying0
  a0 := Tryz.isAgg0
  z0 := Tryz.sizeOf0
  v0 := Tryz.zeroValue0
  t3 := Tryz.underlying3
  a3 := Tryz.isAgg3
  z3 := Tryz.sizeOf3
  v3 := Tryz.zeroValue3
  t4 := Tryz.underlying4
  a4 := Tryz.isAgg4
  z4 := Tryz.sizeOf4
  v4 := Tryz.zeroValue4
  t9 := Tryz.underlying9
  a9 := Tryz.isAgg9
  z9 := Tryz.sizeOf9
  v9 := Tryz.zeroValue9
  t20 := Tryz.underlying20
  a20 := Tryz.isAgg20
  z20 := Tryz.sizeOf20
  v20 := Tryz.zeroValue20
  t31 := Tryz.underlying53
  a31 := Tryz.isAgg53
  z31 := Tryz.sizeOf53
  v31 := Tryz.zeroValue53
  t37 := Tryz.underlying23
  a37 := Tryz.isAgg23
  z37 := Tryz.sizeOf23
  v37 := Tryz.zeroValue23
  t70 := Tryz.underlying105
  a70 := Tryz.isAgg105
  z70 := Tryz.sizeOf105
  v70 := Tryz.zeroValue105
  t72 := Tryz.underlying107
  a72 := Tryz.isAgg107
  z72 := Tryz.sizeOf107
  v72 := Tryz.zeroValue107
  t75 := Tryz.underlying110
  a75 := Tryz.isAgg110
  z75 := Tryz.sizeOf110
  v75 := Tryz.zeroValue110
  t76 := Tryz.underlying111
  a76 := Tryz.isAgg111
  z76 := Tryz.sizeOf111
  v76 := Tryz.zeroValue111
  t127 := Tryz.underlying148
  a127 := Tryz.isAgg148
  z127 := Tryz.sizeOf148
  v127 := Tryz.zeroValue148
  t164 := Tryz.underlying171
  a164 := Tryz.isAgg171
  z164 := Tryz.sizeOf171
  v164 := Tryz.zeroValue171 }
theorem Tryz.Builder_Extra_156 : Builder.Extra Tryz.prog Tryz.lays156_ren := {
  sizeBuilder := by kernel_rfl
  liesBuilder := by kernel_rfl
  t5 := Tryz.underlying5
  a5 := Tryz.isAgg5
  z5 := Tryz.sizeOf5
  v5 := Tryz.zeroValue5
  infoByte := by kernel_rfl
  cellsByte := by kernel_rfl
  sizeByte := by kernel_rfl
  neB5 := by decide }
open Go.RowKit in
/-- No element: the empty string; the world is as it was. (Whatever the slice's address and capacity: a nil slice too.) (LAID: no walk: one application.) -/
theorem Tryz.strings_Join_none (a : Option Addr) (c : Nat) (sep : ByteArray) (w : World) :
    Calls Tryz.prog 26 #[.slice a 0 c, .string sep] w fun e w' => e = .returned (.string ⟨#[]⟩) ∧ w' = w := Any.strings_Join_none Tryz.lays156 Tryz.Builder_Extra_156 a c sep w
open Go.RowKit in
/-- strings.Join: "Join concatenates the elements of its first argument to create a single string. The separator string sep is placed between elements in the resulting string.": HOWEVER MANY ELEMENTS. Below the heap's end the world is as it was. (LAID: no walk: one application.) -/
theorem Tryz.strings_Join (bk o c : Nat) (xs : List ByteArray) (sep : ByteArray) (w : World) (hcells : ∀ (j : Nat) x, xs[j]? = some x → w.cell? ⟨bk, o + j, none⟩ = some (.string x)) (hbk : bk < w.heap.size) (hN : xs.length ≤ 140737488355328) (hcap : xs.length ≤ c) (hlen : (Lib.join (xs.map (·.data.toList)) sep.data.toList).length ≤ 140737488355328) :
    Calls Tryz.prog 26 #[.slice (some ⟨bk, o, none⟩) xs.length c, .string sep] w fun e w' => e = .returned (.string ⟨(Lib.join (xs.map (·.data.toList)) sep.data.toList).toArray⟩) ∧ Below w.heap.size w w' := Any.strings_Join Tryz.lays156 Tryz.Builder_Extra_156 bk o c xs sep w hcells hbk hN hcap hlen
def Tryz.lays137_ren : Go.Shelf.Ren := ⟨fun | 137 => 82 | 217 => 120 | 266 => 156 | n => n, fun | 9 => 9 | 5 => 5 | 3 => 3 | n => n, fun | n => n⟩
theorem Tryz.lays137 : Go.Proofs.Lays.n137 Tryz.prog Tryz.lays137_ren := {
  mixed := by kernel_rfl
  f137 := Tryz.func82.trans (congrArg some (by kernel_rfl))
  f217 := Tryz.func120.trans (congrArg some (by kernel_rfl))
  f266 := Tryz.func156.trans (congrArg some (by kernel_rfl))
  t3 := Tryz.underlying3
  a3 := Tryz.isAgg3
  z3 := Tryz.sizeOf3
  v3 := Tryz.zeroValue3
  t5 := Tryz.underlying5
  a5 := Tryz.isAgg5
  z5 := Tryz.sizeOf5
  v5 := Tryz.zeroValue5
  t9 := Tryz.underlying9
  a9 := Tryz.isAgg9
  z9 := Tryz.sizeOf9
  v9 := Tryz.zeroValue9 }
open Go.RowKit in
/-- strings.IndexByte: "IndexByte returns the index of the first instance of c in s, or -1 if c is not present in s.": IT RETURNS 'Lib.indexByte s c'; the world is as it was. (LAID: no walk: one application.) -/
theorem Tryz.strings_IndexByte (s : ByteArray) (c : Int) (w : World) :
    Calls Tryz.prog 82 #[.string s, .int .u8 c] w fun e w' => e = .returned (.int .i64 (Lib.indexByte s.data.toList c.toNat.toUInt8)) ∧ w' = w := Any.strings_IndexByte Tryz.lays137 s c w
def Tryz.lays219_ren : Go.Shelf.Ren := ⟨fun | 219 => 118 | 217 => 120 | 225 => 152 | 224 => 153 | 267 => 154 | 266 => 156 | 314 => 174 | n => n, fun | 9 => 9 | 3 => 3 | 4 => 4 | 5 => 5 | 46 => 122 | 146 => 189 | 51 => 141 | n => n, fun | 1 => 0 | n => n⟩
theorem Tryz.lays219 : Go.Proofs.Lays.n219 Tryz.prog Tryz.lays219_ren := {
  mixed := by kernel_rfl
  f217 := Tryz.func120.trans (congrArg some (by kernel_rfl))
  f219 := Tryz.func118.trans (congrArg some (by kernel_rfl))
  f224 := Tryz.func153.trans (congrArg some (by kernel_rfl))
  f225 := Tryz.func152.trans (congrArg some (by kernel_rfl))
  f266 := Tryz.func156.trans (congrArg some (by kernel_rfl))
  f267 := Tryz.func154.trans (congrArg some (by kernel_rfl))
  f314 := Tryz.func174.trans (congrArg some (by kernel_rfl))
  t3 := Tryz.underlying3
  a3 := Tryz.isAgg3
  z3 := Tryz.sizeOf3
  v3 := Tryz.zeroValue3
  t4 := Tryz.underlying4
  a4 := Tryz.isAgg4
  z4 := Tryz.sizeOf4
  v4 := Tryz.zeroValue4
  t5 := Tryz.underlying5
  a5 := Tryz.isAgg5
  z5 := Tryz.sizeOf5
  v5 := Tryz.zeroValue5
  t9 := Tryz.underlying9
  a9 := Tryz.isAgg9
  z9 := Tryz.sizeOf9
  v9 := Tryz.zeroValue9
  t46 := Tryz.underlying122
  a46 := Tryz.isAgg122
  z46 := Tryz.sizeOf122
  v46 := Tryz.zeroValue122
  t51 := Tryz.underlying141
  a51 := Tryz.isAgg141
  z51 := Tryz.sizeOf141
  v51 := Tryz.zeroValue141
  t146 := Tryz.underlying189
  a146 := Tryz.isAgg189
  z146 := Tryz.sizeOf189
  v146 := Tryz.zeroValue189
  g1 := by kernel_rfl }
open Go.RowKit Go.Lib in
/-- internal/stringslite.Index (what strings.Index calls) AT A substr OF ONE BYTE c: IT RETURNS 'Lib.indexByte s c'; the world is as it was. (LAID: no walk: one application.) -/
theorem Tryz.stringslite_Index_one (s : ByteArray) (c : UInt8) (w : World) :
    Calls Tryz.prog 118 #[.string s, .string ⟨#[c]⟩] w fun e w' => e = .returned (.int .i64 (Lib.indexByte s.data.toList c)) ∧ w' = w := Any.stringslite_Index_one Tryz.lays219 s c w
def Tryz.lays144_ren : Go.Shelf.Ren := ⟨fun | 144 => 38 | 143 => 79 | 219 => 118 | 217 => 120 | 225 => 152 | 224 => 153 | 267 => 154 | 266 => 156 | 314 => 174 | n => n, fun | 9 => 9 | 4 => 4 | 3 => 3 | 5 => 5 | 46 => 122 | 146 => 189 | 51 => 141 | n => n, fun | 1 => 0 | n => n⟩
theorem Tryz.lays144 : Go.Proofs.Lays.n144 Tryz.prog Tryz.lays144_ren := {
  mixed := by kernel_rfl
  f143 := Tryz.func79.trans (congrArg some (by kernel_rfl))
  f144 := Tryz.func38.trans (congrArg some (by kernel_rfl))
  f217 := Tryz.func120.trans (congrArg some (by kernel_rfl))
  f219 := Tryz.func118.trans (congrArg some (by kernel_rfl))
  f224 := Tryz.func153.trans (congrArg some (by kernel_rfl))
  f225 := Tryz.func152.trans (congrArg some (by kernel_rfl))
  f266 := Tryz.func156.trans (congrArg some (by kernel_rfl))
  f267 := Tryz.func154.trans (congrArg some (by kernel_rfl))
  f314 := Tryz.func174.trans (congrArg some (by kernel_rfl))
  t3 := Tryz.underlying3
  a3 := Tryz.isAgg3
  z3 := Tryz.sizeOf3
  v3 := Tryz.zeroValue3
  t4 := Tryz.underlying4
  a4 := Tryz.isAgg4
  z4 := Tryz.sizeOf4
  v4 := Tryz.zeroValue4
  t5 := Tryz.underlying5
  a5 := Tryz.isAgg5
  z5 := Tryz.sizeOf5
  v5 := Tryz.zeroValue5
  t9 := Tryz.underlying9
  a9 := Tryz.isAgg9
  z9 := Tryz.sizeOf9
  v9 := Tryz.zeroValue9
  t46 := Tryz.underlying122
  a46 := Tryz.isAgg122
  z46 := Tryz.sizeOf122
  v46 := Tryz.zeroValue122
  t51 := Tryz.underlying141
  a51 := Tryz.isAgg141
  z51 := Tryz.sizeOf141
  v51 := Tryz.zeroValue141
  t146 := Tryz.underlying189
  a146 := Tryz.isAgg189
  z146 := Tryz.sizeOf189
  v146 := Tryz.zeroValue189
  g1 := by kernel_rfl }
open Go.RowKit Go.Lib in
/-- strings.Contains: "Contains reports whether substr is within s.": AT A substr OF ONE BYTE c: IT RETURNS 'decide (0 ≤ Lib.indexByte s c)'; the world is as it was. (LAID: no walk: one application.) -/
theorem Tryz.strings_Contains_one (s : ByteArray) (c : UInt8) (w : World) :
    Calls Tryz.prog 38 #[.string s, .string ⟨#[c]⟩] w fun e w' => e = .returned (.bool (decide (0 ≤ Lib.indexByte s.data.toList c))) ∧ w' = w := Any.strings_Contains_one Tryz.lays144 s c w
end Go.Proofs
