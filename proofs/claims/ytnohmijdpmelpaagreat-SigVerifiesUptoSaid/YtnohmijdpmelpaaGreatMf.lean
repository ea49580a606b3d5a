/- The abstract machine: arithmetic, and from a contract to a row. -/
import Derived.Test.YtnohmijdpmelpaaGreatMe
import Derived.Lib.SlBytesConst
import Derived.WalkKit
import Derived.ProofKit
import Derived.OpenShut
import Derived.JoinedCond
import Derived.Carry
import Derived.SliceStrings
import Derived.ChangeMaps5
import Derived.Sort.Grow
set_option linter.unusedSectionVars false
set_option linter.unusedVariables false
set_option linter.unusedSimpArgs false
namespace Go.Am
open Go
variable [Tab]
variable {P : Program} {n k0 : Nat} {fr fr1 fr' : Fr} {H H1 : Heap} {f : FuncId} {S : List Item} {res : AV} {H' : Heap} {ops : Array Oper}

def retL (P : Program) (fr : Fr) (H : Heap) : List ResultVar → (List AV → Option AV) → Option AV
  | [], k => k []
  | r :: rs, k => match resE1 P fr H r with
    | some x => x.force fun x => retL P fr H rs fun l => k (x :: l)
    | none => none
def retE (P : Program) (fr : Fr) (H : Heap) (rs : List ResultVar) : Option AV := retL P fr H rs fun l => match l with
  | [x] => some x
  | l => some (.tup l)
theorem retL_spec : ∀ {rs : List ResultVar} {k : List AV → Option AV} {v : AV}, retL P fr H rs k = some v → ∃ l, resList P fr H rs = some l ∧ k l = some v
  | [], k, v, h => ⟨[], rfl, h⟩
  | r :: rs, k, v, h => by
    unfold retL at h
    split at h
    · rename_i x e
      rw [AV.force_eq] at h
      obtain ⟨l, h1, h2⟩ := retL_spec h
      exact ⟨x :: l, by unfold resList; rw [e, h1], h2⟩
    · simp at h
theorem Runs.retV {fn : Func} {v : AV} (hf : P.funcs[f]? = some fn) (h : retE P fr H fn.results.toList = some v) (hn : nr v = true) (hr : v = res) : Runs P f n k0 (.code .ret :: S) fr H res H := by
  obtain ⟨l, h1, h2⟩ := retL_spec h
  subst hr
  refine Runs.ret hf h1 ?_ hn
  unfold tupE
  split at h2 <;> simp_all
theorem Runs.retH {fn : Func} {v : AV} (hf : P.funcs[f]? = some fn) (h : retE P fr H fn.results.toList = some v) (hn : nr v = true) (hr : v = res) (hh : H = H') : Runs P f n k0 (.code .ret :: S) fr H res H' := by
  subst hh; exact Runs.retV hf h hn hr
theorem Runs.condT {c : Operand} {x y : Code} (hc : opd P 0 fr c = .bool true) (h : Runs P f n k0 (.code x :: S) fr H res H') : Runs P f n k0 (.code (.cond c x y) :: S) fr H res H' := Runs.cond hc h
theorem Runs.condF {c : Operand} {x y : Code} (hc : opd P 0 fr c = .bool false) (h : Runs P f n k0 (.code y :: S) fr H res H') : Runs P f n k0 (.code (.cond c x y) :: S) fr H res H' := Runs.cond hc h
theorem Runs.condS {c : Operand} {x y : Code} {g : Bool} (hc : opd P 0 fr c = .bool g) (h1 : g = true → Runs P f n k0 (.code x :: S) fr H res H') (h2 : g = false → Runs P f n k0 (.code y :: S) fr H res H') : Runs P f n k0 (.code (.cond c x y) :: S) fr H res H' := Runs.cond hc (gd_split h1 h2)
theorem Runs.splitS (s : Nat) {g : Bool} (hs : fr s = .bool g) (h1 : g = true → Runs P f n k0 S (fr.set s (.bool true)) H res H') (h2 : g = false → Runs P f n k0 S (fr.set s (.bool false)) H res H') : Runs P f n k0 S fr H res H' := Runs.split s hs (gd_split h1 h2)
/-- where ways meet: the rest is shown once -/
theorem Runs.meet {σ : Type} (I : σ → Prop) (L : σ → List (Nat × AV)) (Hp : σ → Heap) {it : Item} (tail : ∀ s, I s → Runs P f n k0 S (frL (L s)) (Hp s) res H')
    (body : (∀ s fr' H1, I s → agree fr' (L s) → H1 = Hp s → Runs P f n k0 S fr' H1 res H') → Runs P f n k0 (it :: S) fr H res H') : Runs P f n k0 (it :: S) fr H res H' :=
  body fun s fr' H1 h1 h2 h3 => by subst h3; exact Runs.frame _ h2 (tail s h1)
theorem agree_cons {j : Nat} {v w : AV} {r : List (Nat × AV)} (h : (fr j).force some = some w) (hv : w = v) (hr : agree fr r) : agree fr ((j, v) :: r) := by
  rw [AV.force_eq] at h
  exact ⟨.inl (by rw [← hv]; simpa using h), hr⟩
theorem agree_imp {j : Nat} {v w : AV} {r : List (Nat × AV)} (h : (fr j).force some = some w) (hv : Imp w v) (h1 : noTup w = true) (h2 : noTup v = true) (hr : agree fr r) : agree fr ((j, v) :: r) := by
  rw [AV.force_eq] at h
  simp only [Option.some.injEq] at h
  subst h
  exact ⟨.inr ⟨hv, h1, h2⟩, hr⟩

/-! ### Numbers -/
theorem wrap_i64' (x : Int) : IntKind.i64.wrap x = (x + 9223372036854775808) % 18446744073709551616 - 9223372036854775808 := by
  simp only [IntKind.wrap, IntKind.bits, IntKind.signed, Bool.true_and]
  split <;> rename_i h <;> simp at h <;> omega
theorem wrap_i32 (x : Int) : IntKind.i32.wrap x = (x + 2147483648) % 4294967296 - 2147483648 := by
  simp only [IntKind.wrap, IntKind.bits, IntKind.signed, Bool.true_and]
  split <;> rename_i h <;> simp at h <;> omega
theorem wrap_u8 (x : Int) : IntKind.u8.wrap x = x % 256 := by simp [IntKind.wrap, IntKind.bits, IntKind.signed]
theorem wrap_u16 (x : Int) : IntKind.u16.wrap x = x % 65536 := by simp [IntKind.wrap, IntKind.bits, IntKind.signed]
theorem wrap_u32 (x : Int) : IntKind.u32.wrap x = x % 4294967296 := by simp [IntKind.wrap, IntKind.bits, IntKind.signed]
theorem wrap_u64 (x : Int) : IntKind.u64.wrap x = x % 18446744073709551616 := by simp [IntKind.wrap, IntKind.bits, IntKind.signed]
theorem i64_id {x : Int} (h1 : -9223372036854775808 ≤ x) (h2 : x < 9223372036854775808) : IntKind.i64.wrap x = x := by rw [wrap_i64']; omega
theorem u8_id {x : Int} (h1 : 0 ≤ x) (h2 : x < 256) : IntKind.u8.wrap x = x := by rw [wrap_u8]; omega
theorem bits_nat (k : IntKind) {a b : Nat} (ha : a < 2 ^ k.bits) (hb : b < 2 ^ k.bits) (hk : k.signed = false) :
    bitsE .and k a b = ((a &&& b : Nat) : Int) ∧ bitsE .or k a b = ((a ||| b : Nat) : Int) ∧ bitsE .xor k a b = ((a ^^^ b : Nat) : Int) := by
  have hw : ∀ x : Nat, x < 2 ^ k.bits → k.wrap (x : Int) = x := by
    intro x hx
    simp only [IntKind.wrap, hk, Bool.false_and, Bool.false_eq_true, if_false]
    exact Int.emod_eq_of_lt (Int.natCast_nonneg _) (by exact_mod_cast hx)
  have e : ∀ x : Nat, x < 2 ^ k.bits → (BitVec.ofInt k.bits (x : Int)).toNat = x := by
    intro x hx
    rw [BitVec.toNat_ofInt]
    have : ((x : Int) % ((2 ^ k.bits : Nat) : Int)) = (x : Int) := Int.emod_eq_of_lt (Int.natCast_nonneg _) (by exact_mod_cast hx)
    rw [this]; simp
  refine ⟨?_, ?_, ?_⟩
  · simp only [bitsE]
    rw [BitVec.toNat_and, e a ha, e b hb, hw _ (Nat.and_lt_two_pow _ hb)]
  · simp only [bitsE]
    rw [BitVec.toNat_or, e a ha, e b hb, hw _ (Nat.or_lt_two_pow ha hb)]
  · simp only [bitsE]
    rw [BitVec.toNat_xor, e a ha, e b hb, hw _ (Nat.xor_lt_two_pow ha hb)]
theorem tmodN (n : Nat) (b : Int) : (n : Int).tmod b = (n : Int) % b := Int.tmod_eq_emod_of_nonneg (Int.natCast_nonneg n)
theorem tdivN (n : Nat) (b : Int) : (n : Int).tdiv b = (n : Int) / b := Int.tdiv_eq_ediv_of_nonneg (Int.natCast_nonneg n)
theorem notT {b : Bool} : ((!b) = true) = (b = false) := by cases b <;> simp
theorem notF {b : Bool} : ((!b) = false) = (b = true) := by cases b <;> simp
theorem u8lt (c : UInt8) : c.toNat < 256 := c.toNat_lt
end Go.Am
set_option linter.unusedSectionVars false
set_option linter.unusedVariables false
set_option linter.unusedSimpArgs false
namespace Go.Am
open Go
variable [Tab]
variable {P : Program} {G : Gh} {w : World} {ρ : List Nat} {n k0 : Nat} {fr fr1 fr' : Fr} {H H1 : Heap} {f : FuncId} {S : List Item} {res : AV} {H' : Heap} {ops : Array Oper} {tmps : Array Value}

/-- a block of bytes becomes a slice of bytes that nobody writes any more -/
theorem Runs.freezeB (s : Nat) {id off m cp : Nat} {blk : List AV} (bs : List UInt8) (hs : fr s = .hs id off m cp) (hB : H[id]? = some blk) (hid : k0 ≤ id) (hcp : m ≤ cp) (hl : off + cp ≤ blk.length) (hp : ((blk.drop off).take m) = bs.map fun c => .int .u8 c.toNat)
    (hk : Runs P f n k0 S (fr.set s (.bs bs true)) (H.set id []) res H') : Runs P f n k0 S fr H res H' := by
  have hbl : bs.length = m := by
    have := congrArg List.length hp
    simp at this; omega
  refine Runs.freeze (ag := false) (sz := 1) s hs hB hid (.inr rfl) hcp (by omega) (by rw [Nat.mul_one, hp]; simp [pf]) ?_
  rw [Nat.mul_one, hp]
  refine Runs.conv s (a := .bs bs true) ?_ (.inr (by rw [set_eq]; simp)) (by simp) ?_
  · rw [set_eq]
    exact Imp.slB hbl.symm fun i hi => by
      simp [byteEl, elOf, List.getD_eq_getElem?_getD, List.getElem?_eq_getElem hi]
  · have : (fr.set s (.sl 1 m (elOf false 1 (bs.map fun c => .int .u8 c.toNat)) true)).set s (.bs bs true) = fr.set s (.bs bs true) := by
      funext i
      by_cases e : i = s
      · subst e; rw [set_eq, set_eq]
      · rw [set_ne e, set_ne e, set_ne e]
    rw [this]
    exact hk
/-! ### A contract at arguments that say more -/
def ArgsImp : List AV → List AV → Prop
  | [], [] => True
  | a :: r, b :: l => (Imp a b ∧ noTup a = true ∧ noTup b = true) ∧ ArgsImp r l
  | _, _ => False
theorem ArgsImp.at : ∀ {as bs : List AV}, ArgsImp as bs → as.length = bs.length ∧ ∀ (i : Nat) (b : AV), bs[i]? = some b → ∃ a, as[i]? = some a ∧ Imp a b ∧ noTup a = true ∧ noTup b = true
  | [], [], _ => ⟨rfl, fun i b h => by simp at h⟩
  | a :: r, b :: l, h => by
    obtain ⟨h1, h2⟩ := ArgsImp.at h.2
    refine ⟨by simp [h1], fun i c hc => ?_⟩
    cases i with
    | zero => simp at hc; subst hc; exact ⟨a, rfl, h.1⟩
    | succ i => exact h2 i c (by simpa using hc)
  | [], _ :: _, h => absurd h (by simp [ArgsImp])
  | _ :: _, [], h => absurd h (by simp [ArgsImp])
theorem FnOK.arg {args args' : List AV} (h : FnOK P f args' H res H') (hi : ArgsImp args args') : FnOK P f args H res H' := by
  obtain ⟨h1, h2⟩ := hi.at
  intro w G ρ vs hl ha hb hw
  refine h w G ρ vs (by rw [hl, h1]) (fun i c v e1 e2 => ?_) hb hw
  obtain ⟨a, e3, e4, e5, e6⟩ := h2 i c e1
  obtain ⟨k1, k2⟩ := ha i a v e3 e2
  obtain ⟨k3, k4⟩ := e4 G w ρ v k1
  rw [SpV_noTup e5] at k2
  exact ⟨k3, by rw [SpV_noTup e6]; exact k4 _ k2⟩
theorem Imp.un (a : AV) : Imp a a := Imp.refl a
end Go.Am
set_option linter.unusedSectionVars false
set_option linter.unusedVariables false
set_option linter.unusedSimpArgs false
namespace Go.Am
open Go Go.ChangeShapes Go.WideShapes Go.ChangeAt Go.RowKit
variable [Tab]
variable {P : Program} {f : FuncId}

/-- who owns what when the call begins: every old cell is the caller's -/
def G0 (w : World) : Gh := fun b o => if b < w.heap.size then (match w.cell? (mkA b o) with | some v => if v.oneCell' then .frz else .ctx | none => .ctx) else .free
theorem G0_old {w : World} {b : Nat} (h : b < w.heap.size) (o : Nat) : G0 w b o = .frz ∨ G0 w b o = .ctx := by
  unfold G0
  rw [if_pos h]
  split
  · split
    · exact .inl rfl
    · exact .inr rfl
  · exact .inr rfl
theorem G0_frz {w : World} {b o : Nat} {v : Value} (h : w.cell? (mkA b o) = some v) (h1 : v.oneCell' = true) : G0 w b o = .frz := by
  have hb : b < w.heap.size := by
    unfold World.cell? at h
    split at h
    · rename_i e; exact (Array.getElem?_eq_some_iff.1 e).1
    · simp at h
  unfold G0
  rw [if_pos hb, h]
  simp [h1]
/-- the known package variables hold what they are known to hold -/
def TabIn (w : World) : Prop := ∀ b cs, Tab.k b = some cs → ∃ e fz, w.heap[b]? = some (.cells cs e fz)
theorem G0_wi (w : World) (ht : TabIn w) : WI (G0 w) w := by
  refine ⟨fun b o h => ?_, fun b o h => ?_, fun b o v h hc => ?_, fun b cs e => ⟨ht b cs e, fun o => G0_old (by obtain ⟨_, _, h⟩ := ht b cs e; exact (Array.getElem?_eq_some_iff.1 h).1) o⟩⟩
  · by_cases hb : b < w.heap.size
    · rcases G0_old hb o with e | e <;> rw [e] at h <;> simp [Own.mine] at h
    · unfold G0 at h; rw [if_neg hb] at h; simp [Own.mine] at h
  · unfold G0; rw [if_neg (by omega)]
  · by_cases hb : b < w.heap.size
    · unfold G0 at h
      rw [if_pos hb, hc] at h
      simp only at h
      by_cases h1 : v.oneCell' = true
      · exact h1
      · rw [if_neg h1] at h; simp [Own.mine] at h
    · unfold G0 at h; rw [if_neg hb] at h; simp [Own.mine] at h
/-- a law: it returns true and leaves what was there -/
theorem FnOK.law {args : List AV} (h : FnOK P f args [] (.bool true) []) (w : World) (ht0 : TabIn w) (vs : List Value) (hl : vs.length = args.length) (ha : ∀ (i : Nat) (c : AV) (v : Value), args[i]? = some c → vs[i]? = some v → VR (G0 w) w [] c v ∧ nr c = true) :
    Calls P f vs.toArray w fun e w' => e = .returned (.bool true) ∧ Below w.heap.size w w' := by
  refine (h w (G0 w) [] vs hl (fun i c v h1 h2 => ⟨(ha i c v h1 h2).1, SpV_nr (ha i c v h1 h2).2⟩) ⟨rfl, fun id b blk j c h1 => by simp at h1⟩ (G0_wi w ht0)).mono ?_
  rintro e w' ⟨v, G', ρ', rfl, ht, _, _, _, hv, _⟩
  cases hv
  exact ⟨rfl, ht.os, ht.tape, ht.output, ht.size, fun k hk => ht.blk k hk fun o => G0_old hk o⟩

section
variable {H : Type} {enc : TypeId × Value → H}
theorem trodAll_stays (hl : laidOutB P = true) {W W' : World} {sp : Nat → Bool} : ∀ {ts : List TypeId} {vs : List Value} {ds : List (DataW H)} {p : List MemPlace}, (ts.all fun t => P.readableRec t && Nat.blt t P.types.size) = true →
    DataW.TrodAll enc P W 0 (fun _ => true) true ts vs ds p → (∀ x, x ∈ p → W.sameAt W' x ∧ sp x.block = true) → DataW.TrodAll enc P W' 0 sp true ts vs ds p
  | [], vs, ds, p, _, h, _ => by
    obtain ⟨rfl, rfl, rfl⟩ := trodAll_nil h
    exact trodAll_mk0
  | t :: ts, vs, ds, p, ht, h, hp => by
    simp only [List.all_cons, Bool.and_eq_true] at ht
    obtain ⟨v, vs', d, ds', p1, p2, rfl, rfl, rfl, h1, h2⟩ := trodAll_cons h
    exact trodAll_cons_mk (WideElems.Trod_stays hl ht.1.1 (Nat.le_of_ble_eq_true ht.1.2) h1 (fun x hx => (hp x (by simp [hx])).1) (fun x hx => (hp x (by simp [hx])).2))
      (trodAll_stays hl ht.2 h2 fun x hx => hp x (by simp [hx]))
theorem post_law {fn : Func} {s : ChangeSpec} {W W' : World} {args : Array Value} {ds gs : List (DataW H)} {before : List MemPlace} {t : TypeId} (hl : laidOutB P = true) (hW : DataW.Whole enc P fn.params.toList s.vars false W args.toList ds gs before)
    (hv : s.vars = []) (hfn : s.fn H (ds ++ gs) = { results := [.lit (.bool true)], args := ds }) (hres : fn.resultTypes = #[t]) (hb : P.underlying t = some .bool) (hp : (fn.params.toList.all fun t => P.readableRec t && Nat.blt t P.types.size) = true) (hB : Below W.heap.size W W') :
    s.post enc P fn false true false false W args (.bool true) W' := by
  have hlt := hW.lt
  have hW' := hW
  obtain ⟨p, q, hA, hV, rfl, hfz, hnd⟩ := hW
  rw [hv] at hV
  obtain ⟨rfl, rfl⟩ := trodVars_none hV
  refine ⟨ds, [], p ++ [], [], p, [], hW', ?_, ?_, ?_, World.keptBut_mono (fun x hx => hx.elim) (hB.frame fun _ => False), fun h => by cases h⟩
  · rw [hfn, hres]
    exact trodAll_cons_mk (shut_bool hb _) trodAll_mk0
  · rw [hfn]
    exact trodAll_stays hl hp hA fun x hx => ⟨hB.same (hlt x (by simp [hx])), by simpa using hlt x (by simp [hx])⟩
  · rw [hfn, hv]
    rfl
end
end Go.Am
set_option linter.unusedSectionVars false
set_option linter.unusedVariables false
set_option linter.unusedSimpArgs false
namespace Go.Am
open Go Go.ChangeShapes Go.WideShapes Go.ChangeAt Go.RowKit
variable [Tab]
variable {P : Program} {H : Type} {enc : TypeId × Value → H} {W : World} {base : Nat}

theorem arg_int {r : Reach} {t : TypeId} {k : IntKind} {v : Value} {d : DataW H} {p : List MemPlace} (ht : P.underlying t = some (.int k)) (hval : Value.okWide P W r base t v) (h : DataW.Trod enc P W 0 (fun _ => true) true t v d p) :
    ∃ n : Int, v = .int k n ∧ d = .lit (.int k n) ∧ (Lit.int k n).wf = true ∧ VR (G0 W) W [] (.int k n) v := by
  obtain ⟨n, rfl, rfl, rfl, w0⟩ := open_int ht hval h
  exact ⟨n, rfl, rfl, w0, .int ..⟩
theorem arg_bytes {r : Reach} {t e : TypeId} {v : Value} {d : DataW H} {p : List MemPlace} (ht : P.underlying t = some (.slice e)) (he : P.underlying e = some (.int .u8)) (hc : P.cellsOf e = 1)
    (hval : Value.okWide P W r base t v) (h : DataW.Trod enc P W 0 (fun _ => true) true t v d p) :
    ∃ l : List UInt8, VR (G0 W) W [] (.bs l false) v ∧ ((d = .nil ∧ l = []) ∨ ∃ es sp, d = .slice es sp ∧ l.length = es.length) := by
  obtain ⟨a1, len, cap, rfl⟩ := okWide_slice ht hval
  obtain ⟨fuel, hf⟩ := h
  rcases open_ints ht he hc hf with ⟨hcs, hx⟩ | ⟨a, len', cap', zs, hcs, _, hl, hm, hz, hx, hcell, hwz⟩
  · simp [Value.cells] at hcs
    obtain ⟨rfl, rfl, rfl⟩ := hcs
    simp only [Prod.mk.injEq] at hx
    refine ⟨[], .bs _ _ _ _ (.sl _ _ _ _ _ none 0 (fun _ => undef) (Nat.le_refl _) (fun _ => rfl) (fun i h => absurd h (Nat.not_lt_zero _)) (fun b o h => by simp at h) (fun i j c h => absurd h (Nat.not_lt_zero _))), .inl ⟨hx.1, rfl⟩⟩
  · simp [Value.cells] at hcs
    obtain ⟨rfl, rfl, rfl⟩ := hcs
    simp only [Prod.mk.injEq] at hx
    simp only [if_true] at hz
    let l : List UInt8 := (zs.take len).map toB
    have hlen : l.length = len := by simp [l]; omega
    refine ⟨l, ?_, .inr ⟨_, _, hx.1, by rw [hlen]; simp [lits]; omega⟩⟩
    refine .bs _ _ _ _ ?_
    rw [hlen]
    have hb : ∀ i, i < len → 0 ≤ zs.getD i 0 ∧ zs.getD i 0 < 256 := by
      intro i hi
      have hi' : i < zs.length := by omega
      have := hwz (zs.getD i 0) (by rw [List.getD_eq_getElem?_getD, List.getElem?_eq_getElem hi']; exact List.getElem_mem hi')
      generalize zs.getD i 0 = x at this
      simp [Lit.wf, IntKind.min, IntKind.max, IntKind.signed, IntKind.bits] at this
      omega
    have ha : a = mkA a.block a.off := by
      have hok := hval
      simp only [Value.okWide, ht, Cell.okWide, Cell.ok] at hok
      obtain ⟨b, o, sp⟩ := a
      have := hok.2.2.2.1
      simp only at this; subst this; rfl
    by_cases h0 : len = 0
    · subst h0
      have := VR.sl (G := G0 W) (w := W) [] 1 0 (byteEl l) false (some (a.block, a.off)) cap (fun _ => undef) (by omega) (by simp) (fun i h => absurd h (Nat.not_lt_zero _)) (fun b o _ q h => by simp at h) (fun i j c h => absurd h (Nat.not_lt_zero _))
      rw [ha]
      exact this
    · rw [ha]
      refine .sl _ _ _ _ _ (some (a.block, a.off)) cap (fun q => .int .u8 (zs.getD q 0)) hl (by simp) (fun i _ => rfl) (fun b o e q hq => ?_) (fun i j c hi hcj => ?_)
      · simp only [Option.some.injEq, Prod.mk.injEq] at e
        obtain ⟨rfl, rfl⟩ := e
        have h1 := hcell q (by omega)
        rw [ha, mkA_add] at h1
        exact ⟨G0_frz h1 rfl, h1⟩
      · have hj : j = 0 := by
          have := (List.getElem?_eq_some_iff.1 hcj).1
          simpa [byteEl, AV.cells] using this
        subst hj
        simp [byteEl, AV.cells] at hcj
        subst hcj
        have : ((l[i]?.getD 0).toNat : Int) = zs.getD i 0 := by
          simp only [l, List.getElem?_map, List.getElem?_take, if_pos hi]
          have hi' : i < zs.length := by omega
          rw [List.getElem?_eq_getElem hi']
          have := hb i hi
          rw [List.getD_eq_getElem?_getD, List.getElem?_eq_getElem hi'] at this ⊢
          simp only [Option.getD_some, Option.map_some] at this ⊢
          exact toB_val this.1 this.2
        rw [Nat.mul_one, Nat.add_zero, this]
        exact .int ..
end Go.Am
set_option linter.unusedSectionVars false
set_option linter.unusedVariables false
set_option linter.unusedSimpArgs false
namespace Go.Am
open Go Go.RowKit
variable [Tab]
variable {P : Program} {f : FuncId}

theorem Below.at_ {w w' : World} (h : Below w.heap.size w w') {b o : Nat} (hb : b < w.heap.size) : w'.cell? (mkA b o) = w.cell? (mkA b o) ∧ w'.frozen? (mkA b o) = w.frozen? (mkA b o) := by
  have e := h.block b hb
  constructor
  · show (match w'.heap[b]? with | _ => _) = (match w.heap[b]? with | _ => _)
    simp only [World.cell?, mkA, e]
  · simp only [World.frozen?, mkA, e]
theorem Below.tr {w w' : World} {G : Gh} (h : Below w.heap.size w w') (hw : WI G w) : Trans G w G w' := by
  refine ⟨h.os, h.tape, h.output, h.size, fun _ _ e => e, fun _ _ e => e, fun b o e => ?_, fun b hb _ => h.block b hb, fun _ _ e1 e2 => absurd e2 e1⟩
  exact Below.at_ h (hw.lt (b := b) (o := o) (by rcases e with e | e <;> rw [e] <;> simp))
theorem Below.wi {w w' : World} {G : Gh} (h : Below w.heap.size w w') (hw : WI G w) : WI G w' := by
  have lt : ∀ b o, (G b o = .frz ∨ (G b o).mine = true) → b < w.heap.size := fun b o e => hw.lt (b := b) (o := o) (by
    rcases e with e | e
    · rw [e]; simp
    · intro k; rw [k] at e; cases e)
  refine ⟨fun b o e => ?_, fun b o hb => hw.old b o (Nat.le_trans h.size hb), fun b o v e hc => ?_, hw.tab.trans (Below.tr h hw)⟩
  · have := Below.at_ h (o := o) (lt b o (.inr e))
    rw [this.1, this.2]; exact hw.own b o e
  · rw [(Below.at_ h (o := o) (lt b o e)).1] at hc
    exact hw.one b o v e hc
/-- a value that hangs on no world -/
def pv : AV → Bool
  | .int .. => true
  | .bool _ => true
  | .str _ => true
  | .tup vs => vs.all fun | .int .. => true | .bool _ => true | .str _ => true | _ => false
  | _ => false
theorem pv_nr {a : AV} (h : pv a = true) : nr a = true := by
  cases a <;> simp [pv] at h <;> try rfl
  rename_i vs
  unfold nr
  rw [List.all_eq_true]
  intro x hx
  have := h x hx
  cases x <;> simp at this ⊢ <;> rfl
/-- what a function of the library leaves that returns pure values and makes new blocks alone -/
theorem FnOK.of_below {args : List AV} {res : AV} (hr : pv res = true)
    (h : ∀ (w : World) (G : Gh) (vs : List Value), vs.length = args.length → (∀ (i : Nat) (c : AV) (v : Value), args[i]? = some c → vs[i]? = some v → VR G w [] c v) → WI G w →
      Calls P f vs.toArray w fun e w' => ∃ v, e = .returned v ∧ (∀ G w, VR G w [] res v) ∧ Below w.heap.size w w') : FnOK P f args [] res [] := by
  intro w G ρ vs hl ha hb hw
  have hρ : ρ = [] := List.eq_nil_of_length_eq_zero (by rw [← hb.len]; rfl)
  subst hρ
  refine (h w G vs hl (fun i c v e1 e2 => (ha i c v e1 e2).1) hw).mono ?_
  rintro e w' ⟨v, rfl, hv, hB⟩
  refine ⟨v, G, [], rfl, Below.tr hB hw, Below.wi hB hw, rfl, ⟨rfl, fun id b blk j c h1 => by simp at h1⟩, hv _ _, SpV_nr (pv_nr hr)⟩
end Go.Am
