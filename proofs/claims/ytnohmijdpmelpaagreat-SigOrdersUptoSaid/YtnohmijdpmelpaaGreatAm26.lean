/- The abstract machine: the bytes of a constant text; blocks that become bytes. -/
import Derived.Test.YtnohmijdpmelpaaGreatAm25
import Derived.Lib.SlBytesConst
set_option linter.unusedSectionVars false
set_option linter.unusedVariables false
set_option linter.unusedSimpArgs false
namespace Go.Am
open Go
variable [Tab]
variable {P : Program} {G : Gh} {w : World} {ρ : List Nat} {n k0 : Nat} {fr fr1 fr' : Fr} {H H1 : Heap} {f : FuncId} {S : List Item} {res : AV} {H' : Heap} {ops : Array Oper} {tmps : Array Value}

theorem lit_raw {t len : Nat} {parts : List (Nat × AV)} {rp : List (Nat × Value)} {e sz : Nat} {ag : Bool} {cs : List AV} (h : litE P t len parts = some (e, ag, sz, cs)) (hm : rp.map (·.1) = parts.map (·.1))
    (hv : ∀ (q : Nat) (p : Nat × AV) (r : Nat × Value), parts[q]? = some p → rp[q]? = some r → VR G w ρ p.2 r.2) :
    ∃ rl : List Value, (Instr.buildSlice t len rp.toArray).run P w = .ok (.slice (some (mkA w.heap.size 0)) len len) (w.alloc (.cells rl.toArray e)) ∧ P.underlying t = some (.slice e) ∧ (∀ v, v ∈ rl → v.oneCell' = true) ∧ rl.length = len * sz ∧
      (∀ i, i < len → (elOf ag sz cs i).cells.length = sz) ∧ (∀ (i j : Nat) (c : AV) (v : Value), i < len → (elOf ag sz cs i).cells[j]? = some c → rl[i * sz + j]? = some v → VR G w [] c v) := by
  unfold litE at h
  split at h
  · rename_i e' sz' by_ hs
    obtain ⟨hu, inf, zs, h1, h2, h3, h4⟩ := slT_some hs
    subst h3
    obtain ⟨z, zv, inf', q1, q2, q3, q4, q5, _⟩ := zero_sound h2
    rw [h1] at q1; simp at q1; subst q1
    split at h
    · rename_i ag' cs' ha hf
      simp only [cond_eq_ite] at h
      split at h
      · rename_i hq
        simp only [Bool.and_eq_true, Bool.or_eq_true] at hq
        obtain ⟨⟨⟨p1, p2⟩, p3⟩, p4⟩ := hq
        have p2 := Nat.eq_of_beq_eq_true p2
        have p4 := Nat.le_of_ble_eq_true p4
        simp only [Option.some.injEq, Prod.mk.injEq] at h
        obtain ⟨rfl, rfl, rfl, rfl⟩ := h
        let zr : Array Value := if len * inf.size = 0 then #[] else z.cells
        obtain ⟨res, e1, e2⟩ := fill_sound (G := G) (w := w) (ρ := ρ) _ parts rp (List.replicate (len * inf.size) .bad) ((Array.range (len * inf.size)).map (zr[· % zr.size]!)) cs' hf hm hv
          ⟨by simp, fun q c v k1 _ => by rw [List.getElem?_replicate] at k1; split at k1 <;> simp at k1; subst k1; exact .bad ..⟩
        obtain ⟨r1, r2, r3⟩ := rowOf (m := len) (ag := ag') e2 p1 p2 (p3.imp id Nat.eq_of_beq_eq_true)
        have hrl : res.toList.length = len * inf.size := by rw [e2.1, p2]
        refine ⟨res.toList, ?_, hu, r1, hrl, r2, r3⟩
        simp only [Instr.buildSlice, Sem.run_bind, run_und hu, Result.andThen_ok, sizeOf, run_ti h1, Sem.run_pure]
        rw [if_neg (by omega)]
        by_cases h0 : len * inf.size = 0
        · rw [if_pos h0]
          have hzr : zr = #[] := if_pos h0
          rw [hzr] at e1
          simp only [Sem.run_bind, Sem.run_pure, Result.andThen_ok, e1, newRow, run_newObj, Array.toArray_toList]
          rfl
        · rw [if_neg h0]
          have hzr : zr = z.cells := if_neg h0
          rw [hzr] at e1
          simp only [Sem.run_bind, Sem.run_pure, Result.andThen_ok, zeroValue, run_ti h1, q2, e1, newRow, run_newObj, Array.toArray_toList]
          rfl
      · simp at h
    · simp at h
  · simp at h
/-- the bytes of a constant text: a row, and its conversion to its own type -/
theorem Runs.litConv {i j t len d1 d2 e : Nat} {rest : List Nat} {oi oj : Oper} {parts : Array (Nat × Operand)} {cs : List AV} {ns : List Int} (hi : ops[i]? = some oi) (hj : ops[j]? = some oj) (h1 : oi.op = .buildSlice t len parts) (h2 : oj.op = .convert t t (.tmp d1))
    (e1 : oi.dst = some d1) (e2 : oj.dst = some d2) (g1 : gOK ops fr oi = some true) (g2 : gOK ops (fr.set d1 .bad) oj = some true) (hd1 : Nat.blt d1 n = true) (hd2 : Nat.blt d2 n = true)
    (hl : litE P t len (partsE P 0 fr parts) = some (e, false, 1, cs)) (hu : P.underlying e = some (.int .u8)) (hn : bytesE cs = some ns) (hln : Nat.beq ns.length len = true) (hb : ∀ x, x ∈ ns → 0 ≤ x ∧ x < 256)
    (hk : Runs P f n k0 (.inRegion ops rest :: S) ((fr.set d1 .bad).set d2 (.bs (ns.map toB) true)) H res H') : Runs P f n k0 (.inRegion ops (i :: j :: rest) :: S) fr H res H' := by
  have hln := Nat.eq_of_beq_eq_true hln
  have hd1 := Nat.le_of_ble_eq_true hd1
  have hd2 := Nat.le_of_ble_eq_true hd2
  intro b a w G ρ k1 k2 k3 hkk h4 cs'
  obtain ⟨p1, p2⟩ := parts_rel (P := P) (t := 0) h4.fr parts
  obtain ⟨rl, q1, q2, q3, q4, q5, q6⟩ := lit_raw (P := P) (w := w) (G := G) (ρ := ρ) hl p1 p2
  have hpa : (parts.map fun (x : Nat × Operand) => (x.1, a.eval x.2)) = (parts.toList.map fun p => (p.1, a.eval p.2)).toArray := by
    apply Array.ext'; simp
  let v' : Value := .slice (some (mkA w.heap.size 0)) len len
  have hr1 : (execOp a.eval oi).run P w = .ok (.value v') (w.alloc (.cells rl.toArray e)) := by
    simp only [execOp, h1, hpa]
    simp [q1, v']
  have s1 := step_value (P := P) (b := b) (rest := j :: rest) (k := S) (cs := cs') hi (gOK_wanted g1 h4.fr) hr1
  have hf1 : FR G w ρ (fr.set d1 .bad) (a.put oi.dst v').tmps := by
    intro q
    rw [e1]
    unfold Fr.set
    cases hq : Nat.beq q d1 with
    | true => exact ⟨.bad .., by simp [SpV, Sp]⟩
    | false =>
      have hne : q ≠ d1 := fun h => by rw [h, Nat.beq_refl] at hq; cases hq
      have : (a.put (some d1) v').tmps.getD q undef = a.tmps.getD q undef := by
        simp only [Act.put, Array.getD_eq_getD_getElem?]
        rw [Array.getElem?_setIfInBounds_ne (fun h => hne h.symm)]
      rw [this]
      exact h4.fr q
  have hev : (a.put oi.dst v').eval (.tmp d1) = v' := by
    rw [e1]
    simp [Act.eval, Act.put, Array.getD_eq_getD_getElem?, h4.size, show d1 < n from hd1]
  have hr2 : (execOp (a.put oi.dst v').eval oj).run P (w.alloc (.cells rl.toArray e)) = .ok (.value v') (w.alloc (.cells rl.toArray e (rl.toArray.size, rl.toArray.size + 1))) := by
    simp only [execOp, h2]
    rw [hev]
    have := Lib.run_convert_bytes_const (P := P) w t e rl.toArray len len q2 hu
    simp only [v', mkA]
    simp [this]
  have s2 := step_value (P := P) (b := b) (rest := rest) (k := S) (cs := cs') hj (gOK_wanted g2 hf1) hr2
  have hi1 : Inv G w ρ n (fr.set d1 .bad) H (a.put oi.dst v').tmps := ⟨by rw [e1]; simp [Act.put, h4.size], hf1, h4.br, h4.wi⟩
  have hs := newSl hi1 q3 q4 (Nat.le_refl _) q5 q6 (e := e) (fz := (rl.toArray.size, rl.toArray.size + 1)) (by
    intro o ho
    simp only [List.size_toArray]
    simp; omega)
  obtain ⟨q7, q8⟩ := bytesE_el hn hb
  have hlen : (ns.map toB).length = len := by simp [hln]
  have hv : VR (allocG G w.heap.size rl.length (rowT (len * 1))) (w.alloc (.cells rl.toArray e (rl.toArray.size, rl.toArray.size + 1))) ρ (.bs (ns.map toB) true) v' := by
    have h9 := hs.vr
    refine .bs _ _ _ _ ?_
    rw [hlen]
    refine (h9.pf rfl []).sl_congr fun i hi => ?_
    have := q8 i (by omega)
    simp only [elOf, cond_false]
    exact this.symm
  have hs2 : InvV _ _ ρ n (fr.set d1 .bad) H (a.put oi.dst v').tmps (.bs (ns.map toB) true) v' := ⟨hs.inv, hv, SpV_of_Sp ((Sp_bs_sl (m := len) (el := elOf false 1 cs)).2 hs.sp) (by simp)⟩
  have hp := hs2.put oj.dst (fun d e => by rw [e2] at e; simp at e; subst e; exact hd2)
  rw [e2] at hp
  obtain ⟨v2, w2, G2, ρ3, frm, hst2, r1, r2, ht, hr⟩ := hk b ((a.put oi.dst v').put (some d2) v') _ _ ρ k1 k2 (by rw [e1]; exact k3) hkk hp cs'
  rw [e2] at s2
  exact ⟨v2, w2, G2, ρ3, frm, .head s1 (.head s2 hst2), r1, r2, ((alloc_trans h4.wi _ _ _ (fun o ho _ => by rw [frozen_alloc_new]; simp; omega)).trans (putG_trans ..)).trans ht, hr⟩
/-- a block of bytes becomes a slice of bytes that nobody writes any more -/
theorem Runs.freezeB (s : Nat) {id off m cp : Nat} {blk : List AV} (bs : List UInt8) (hs : fr s = .hs id off m cp) (hB : H[id]? = some blk) (hid : k0 ≤ id) (hcp : m ≤ cp) (hl : off + cp ≤ blk.length) (hp : ((blk.drop off).take m) = bs.map fun c => .int .u8 c.toNat)
    (hk : Runs P f n k0 S (fr.set s (.bs bs true)) (H.set id []) res H') : Runs P f n k0 S fr H res H' := by
  have hbl : bs.length = m := by
    have := congrArg List.length hp
    simp at this; omega
  refine Runs.freeze (ag := false) (sz := 1) s hs hB hid (.inr rfl) hcp (by omega) (by rw [Nat.mul_one, hp]; simp [pf]) ?_
  rw [Nat.mul_one, hp]
  refine Runs.conv s (a := .bs bs true) ?_ (.inr (by rw [set_eq]; simp)) (by simp) ?_
  · rw [set_eq]
    exact Imp.slB hbl.symm fun i hi => by
      simp [byteEl, elOf, List.getD_eq_getElem?_getD, List.getElem?_eq_getElem hi]
  · have : (fr.set s (.sl 1 m (elOf false 1 (bs.map fun c => .int .u8 c.toNat)) true)).set s (.bs bs true) = fr.set s (.bs bs true) := by
      funext i
      by_cases e : i = s
      · subst e; rw [set_eq, set_eq]
      · rw [set_ne e, set_ne e, set_ne e]
    rw [this]
    exact hk
/-! ### A contract at arguments that say more -/
def ArgsImp : List AV → List AV → Prop
  | [], [] => True
  | a :: r, b :: l => (Imp a b ∧ noTup a = true ∧ noTup b = true) ∧ ArgsImp r l
  | _, _ => False
theorem ArgsImp.at : ∀ {as bs : List AV}, ArgsImp as bs → as.length = bs.length ∧ ∀ (i : Nat) (b : AV), bs[i]? = some b → ∃ a, as[i]? = some a ∧ Imp a b ∧ noTup a = true ∧ noTup b = true
  | [], [], _ => ⟨rfl, fun i b h => by simp at h⟩
  | a :: r, b :: l, h => by
    obtain ⟨h1, h2⟩ := ArgsImp.at h.2
    refine ⟨by simp [h1], fun i c hc => ?_⟩
    cases i with
    | zero => simp at hc; subst hc; exact ⟨a, rfl, h.1⟩
    | succ i => exact h2 i c (by simpa using hc)
  | [], _ :: _, h => absurd h (by simp [ArgsImp])
  | _ :: _, [], h => absurd h (by simp [ArgsImp])
theorem FnOK.arg {args args' : List AV} (h : FnOK P f args' H res H') (hi : ArgsImp args args') : FnOK P f args H res H' := by
  obtain ⟨h1, h2⟩ := hi.at
  intro w G ρ vs hl ha hb hw
  refine h w G ρ vs (by rw [hl, h1]) (fun i c v e1 e2 => ?_) hb hw
  obtain ⟨a, e3, e4, e5, e6⟩ := h2 i c e1
  obtain ⟨k1, k2⟩ := ha i a v e3 e2
  obtain ⟨k3, k4⟩ := e4 G w ρ v k1
  rw [SpV_noTup e5] at k2
  exact ⟨k3, by rw [SpV_noTup e6]; exact k4 _ k2⟩
theorem Imp.un (a : AV) : Imp a a := Imp.refl a
end Go.Am
