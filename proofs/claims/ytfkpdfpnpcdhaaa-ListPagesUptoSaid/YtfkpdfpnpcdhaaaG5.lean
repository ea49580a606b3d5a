/- contracts. -/
import Derived.Test.YtfkpdfpnpcdhaaaG4
set_option maxRecDepth 100000
set_option linter.unusedVariables false
set_option linter.unusedSimpArgs false
set_option linter.unusedSectionVars false
namespace Go.Am
open Go Go.RowKit
open Go Go.RowKit
variable [Tab]
variable {P : Program} {G : Gh} {w : World} {ρ : List Nat} {fr : Fr} {H : Heap}
/-- the room behind a cell's slice becomes the pending value's -/
def moveT (id j : Nat) : Own → Own := fun t => if t = .spare id j then .res 0 else t
theorem moveT_re (id j : Nat) : ReTag (moveT id j) := by
  constructor
  · intro x; unfold moveT; split <;> simp_all
  · intro x; unfold moveT; split <;> simp_all
  · rfl
  · intro x; unfold moveT; split <;> simp_all [Own.mine]
theorem OpSem.loadTake {o : Oper} {t : TypeId} {a : Operand} {id off : Nat} {blk : List AV} {x : AV} (ho : o.op = .load t a) (hx : opd P t fr a = .ptr id off) (h1 : H[id]? = some blk) (h2 : blk[off]? = some x) (ha : isAggT P t = some false) (hn : noTup x = true) :
    OpSem P o fr H x fr (H.set id (blk.set off (un1 x))) := by
  intro b a' w G ρ n ops i rest k cs hoi hw hi
  have he := VR.opd (P := P) (t := t) hi.fr a
  rw [hx] at he
  obtain ⟨bb, hr, hv⟩ := he.ptr_inv
  obtain ⟨k1, v, k2, k3, k4⟩ := hi.br.cell id bb blk off x hr h1 h2
  have hrun : (execOp a'.eval o).run P w = .ok (.value v) w := by
    simp [execOp, ho, hv, Instr.loadAt, Instr.sureAddr, loadVar, run_isAgg ha, k2]
  refine ⟨v, w, reG (moveT id off) G, [], .one (step_value hoi hw hrun), (moveT_re id off).trans .., ?_⟩
  rw [List.append_nil]
  refine ⟨⟨hi.size, fun s => ⟨(hi.fr s).1.keep ((moveT_re id off).keeps _ _), (hi.fr s).2.map fun c b o e => by unfold reG; rw [e]; rfl⟩, ⟨by simp [hi.br.len], fun id' b' blk' j c e1 e2 e3 => ?_⟩, (moveT_re id off).wi hi.wi⟩, k3.keep ((moveT_re id off).keeps _ _), ?_⟩
  · have keep : ∀ (j' : Nat) (c' : AV), (∃ blk0, H[id']? = some blk0 ∧ blk0[j']? = some c') → (id', j') ≠ (id, off) → reG (moveT id off) G b' j' = .cell id' ∧ ∃ v, w.cell? (mkA b' j') = some v ∧ VR (reG (moveT id off) G) w ρ c' v ∧ Sp (reG (moveT id off) G) (.spare id' j') c' v := fun j' c' ⟨blk0, q1, q2⟩ hne => by
      obtain ⟨m1, u, m2, m3, m4⟩ := hi.br.cell id' b' blk0 j' c' e1 q1 q2
      refine ⟨by unfold reG; rw [m1]; rfl, u, m2, m3.keep ((moveT_re id off).keeps _ _), m4.map fun b o e => ?_⟩
      unfold reG; rw [e]; unfold moveT; rw [if_neg]
      intro h; simp only [Own.spare.injEq] at h; exact hne (by rw [h.1, h.2])
    rw [List.getElem?_set] at e2
    by_cases hid : id = id'
    · subst hid
      have hlt : id < H.length := (List.getElem?_eq_some_iff.1 h1).1
      rw [if_pos rfl, if_pos hlt] at e2
      cases e2
      rw [List.getElem?_set] at e3
      by_cases hj : off = j
      · subst hj
        have hlt2 : off < blk.length := (List.getElem?_eq_some_iff.1 h2).1
        rw [if_pos rfl, if_pos hlt2] at e3
        cases e3
        rw [hr] at e1; cases e1
        refine ⟨by unfold reG; rw [k1]; rfl, v, k2, (k3.keep ((moveT_re id off).keeps _ _)).un1, Sp_un1 ..⟩
      · rw [if_neg hj] at e3
        exact keep j c ⟨blk, h1, e3⟩ fun h => hj (by cases h; rfl)
    · rw [if_neg hid] at e2
      exact keep j c ⟨blk', e2, e3⟩ fun h => hid (by cases h; rfl)
  · have : Sp (reG (moveT id off) G) (.res 0) x v := k4.map fun b o e => by unfold reG; rw [e]; simp [moveT]
    cases x <;> first | exact this | simp [noTup] at hn
theorem VR.slOwn {sz n : Nat} {el : Nat → AV} {o o' : Bool} {v : Value} (h : VR G w ρ (.sl sz n el o) v) : VR G w ρ (.sl sz n el o') v := by
  obtain ⟨base, cap, vs, rfl, h1, h2, h3, h4, h5⟩ := h.sl_inv
  exact .sl _ _ _ _ _ base cap vs h1 h2 h3 h4 h5
/-- a slot's room becomes a cell's -/
def giveT (s id j : Nat) : Own → Own := fun t => if t = .slot s 0 then .spare id j else t
theorem giveT_re (s id j : Nat) : ReTag (giveT s id j) := by
  constructor
  · intro x; unfold giveT; split <;> simp_all
  · intro x; unfold giveT; split <;> simp_all
  · rfl
  · intro x; unfold giveT; split <;> simp_all [Own.mine]
theorem OpSem.storeMove {o : Oper} {t : TypeId} {A : Operand} {s id off sz n : Nat} {el : Nat → AV} {blk : List AV} (ho : o.op = .store t A (.tmp s)) (hA : opd P t fr A = .ptr id off) (hX : fr s = .sl sz n el true)
    (hk : H[id]? = some blk) (hz : szT P t = some 1) (hl : Nat.ble (off + 1) blk.length = true) :
    OpSem P o fr H .bad (fr.set s (.sl sz n el false)) (H.set id (putCells blk off [.sl sz n el true])) := by
  refine step_skip_sem fun a w G ρ nn hi => ?_
  have hv := VR.opd (P := P) (t := t) hi.fr (.tmp s)
  have hX' : opd P t fr (.tmp s) = .sl sz n el true := hX
  rw [hX'] at hv
  have hp := VR.opd (P := P) (t := t) hi.fr A
  rw [hA] at hp
  obtain ⟨b, hr, hpe⟩ := hp.ptr_inv
  have hvs := hv.cells (fun vs h => by cases h) (fun h => by cases h)
  have hl := Nat.le_of_ble_eq_true hl
  obtain ⟨hwr, hinv⟩ := store_inv hi hr hk hvs.un1 (by rfl) (fun y hy G t v => by obtain ⟨z, hz, rfl⟩ := List.mem_map.1 hy; exact Sp_un1 ..) (show off + 1 ≤ blk.length from hl)
  have hz2 : szT P t = some (a.eval (.tmp s)).cells.toList.length := by rw [hz, hvs.1]; rfl
  have hG := giveT_re s id off
  refine ⟨_, _, ?_, ?_, ⟨hinv.size, fun i => ?_, ⟨?_, fun id' b' blk' j c e1 e2 e3 => ?_⟩, hG.wi hinv.wi⟩⟩
  · have := run_storeAt (P := P) hz2 hwr hi.wi
    simp only [execOp, ho, hpe]
    simp [this]
  · exact ((hwr.trans).trans ((clrT_re ..).trans _ _)).trans (hG.trans _ _)
  · have hf := hinv.fr i
    unfold Fr.set
    cases hb : Nat.beq i s with
    | true =>
      have := Nat.eq_of_beq_eq_true hb
      subst this
      rw [hX] at hf
      exact ⟨(hf.1.slOwn).keep (hG.keeps _ _), by simp [SpV, Sp]⟩
    | false =>
      refine ⟨hf.1.keep (hG.keeps _ _), hf.2.map fun c b o e => ?_⟩
      have hne : i ≠ s := fun e => by rw [e, Nat.beq_refl] at hb; cases hb
      show giveT s id off (reG _ G b o) = _
      rw [e]; unfold giveT; rw [if_neg (by simp [hne])]
  · have := hinv.br.len; simpa using this
  · have keep : ∀ (blkF : List AV), (H.set id (putCells blk off ((AV.sl sz n el true).cells.map un1)))[id']? = some blkF → blkF[j]? = some c →
        reG (giveT s id off) (reG (clrT id off ((AV.sl sz n el true).cells.map un1).length) G) b' j = .cell id' ∧ ∃ v, (w.setCells b off (a.eval (.tmp s)).cells.toList).cell? (mkA b' j) = some v ∧
          VR (reG (giveT s id off) (reG (clrT id off ((AV.sl sz n el true).cells.map un1).length) G)) (w.setCells b off (a.eval (.tmp s)).cells.toList) ρ c v ∧
          Sp (reG (giveT s id off) (reG (clrT id off ((AV.sl sz n el true).cells.map un1).length) G)) (.spare id' j) c v := fun blkF q1 q2 => by
      obtain ⟨m1, u, m2, m3, m4⟩ := hinv.br.cell id' b' blkF j c e1 q1 q2
      exact ⟨by show giveT s id off _ = _; rw [m1]; rfl, u, m2, m3.keep (hG.keeps _ _), m4.map fun b o e => by show giveT s id off (reG _ G b o) = _; rw [e]; rfl⟩
    have hlt : id < H.length := (List.getElem?_eq_some_iff.1 hk).1
    by_cases hid : id = id'
    · subst hid
      rw [List.getElem?_set, if_pos rfl, if_pos hlt] at e2
      cases e2
      by_cases hj : off ≤ j ∧ j < off + 1
      · obtain rfl : j = off := by omega
        rw [putCells_at _ _ _ _ hl, if_pos (by simp)] at e3
        simp only [Nat.sub_self, List.getElem?_cons_zero, Option.some.injEq] at e3
        subst e3
        obtain ⟨m1, u, m2, m3, m4⟩ := hinv.br.cell id b' _ j (.sl sz n el false) e1 (by rw [List.getElem?_set, if_pos rfl, if_pos hlt]) (by rw [putCells_at _ _ _ _ (show j + 1 ≤ blk.length from hl), if_pos ⟨Nat.le_refl _, show j < j + 1 by omega⟩, Nat.sub_self]; rfl)
        rw [hr] at e1; cases e1
        obtain ⟨base, cap, vs, hve, _⟩ := hv.sl_inv
        have hat := hwr.at_ hi.wi (q := 0) (by rw [hve]; simp [Value.cells])
        rw [Nat.add_zero, m2] at hat
        have hu : u = a.eval (.tmp s) := by
          have := Option.some.inj hat
          rw [this]; simp [hve, Value.cells]
        refine ⟨by show giveT s id j _ = _; rw [m1]; rfl, u, m2, (m3.slOwn).keep (hG.keeps _ _), ?_⟩
        rw [hu]
        have hs := (hi.fr s).2
        rw [hX] at hs
        have hs' : Sp G (.slot s 0) (.sl sz n el true) (a.eval (.tmp s)) := hs
        refine hs'.map fun b o e => ?_
        show giveT s id j (clrT _ _ _ (G b o)) = _
        rw [e]; simp [clrT, giveT]
      · refine keep _ (by rw [List.getElem?_set, if_pos rfl, if_pos hlt]) ?_
        rw [putCells_at _ _ _ _ hl, if_neg (by simpa using hj)] at e3
        rw [putCells_at _ _ _ _ (show off + 1 ≤ blk.length from hl), if_neg (show ¬ (off ≤ j ∧ j < off + (List.map un1 (AV.sl sz n el true).cells).length) from hj)]
        exact e3
    · refine keep blk' ?_ e3
      rw [List.getElem?_set, if_neg hid] at e2 ⊢
      exact e2
end Go.Am
namespace Go.Proofs.LP
open Go Go.Am Go.Proofs
variable [MM]
section
variable {P : Program} {f : FuncId} {n k0 : Nat} {S : List Item} {fr : Fr} {H : Heap} {res : AV} {H' : Heap}
/-- cells of one's own blocks, said otherwise -/
theorem convH {H2 : Heap} (hl : H2.length = H.length) (h : ∀ (id : Nat) (blk2 : List AV) (j : Nat) (c2 : AV), H2[id]? = some blk2 → blk2[j]? = some c2 → ∃ blk c, H[id]? = some blk ∧ blk[j]? = some c ∧ Imp c c2) (hk : Runs P f n k0 S fr H2 res H') : Runs P f n k0 S fr H res H' :=
  Runs.ghost (fun w G ρ tmps hkk h4 => ⟨G, ρ, Trans.refl _ _, ⟨h4.size, h4.fr, ⟨by rw [hl]; exact h4.br.len, fun id b blk2 j c2 e1 e2 e3 => by
    obtain ⟨blk, c, g1, g2, g3⟩ := h id blk2 j c2 e2 e3
    obtain ⟨k1, v, k2, k3, k4⟩ := h4.br.cell id b blk j c e1 g1 g2
    obtain ⟨m1, m2⟩ := g3 _ _ _ _ k3
    exact ⟨k1, v, k2, m1, m2 _ k4⟩⟩, h4.wi⟩, hkk, rfl⟩) hk
/-- blocks that no result leads to end with the call -/
theorem dropEnd {Hx : Heap} (m : Nat) (hm : k0 ≤ m) (hp : (Hx.take m).all (·.all fun c => okp m c) = true) (ho : okp m res = true) (h : Runs P f n k0 S fr H res Hx) : Runs P f n k0 S fr H res (Hx.take m) := by
  intro b a w G ρ h1 h2 h3 hk h4 cs
  obtain ⟨v, w', G', ρ', frm, s1, s2, s3, t1, t2, t3, t4, t5, t6⟩ := h b a w G ρ h1 h2 h3 hk h4 cs
  refine ⟨v, w', G', ρ'.take m, frm, s1, s2, s3, t1, t2, ?_, ⟨by simp [t4.len], fun id b blk j c e1 e2 e3 => ?_⟩, t5.okp ho, t6⟩
  · rw [List.take_take, Nat.min_eq_left hm]; exact t3
  · rw [List.getElem?_take] at e1 e2
    split at e1
    · rename_i hid
      rw [if_pos hid] at e2
      obtain ⟨k1, u, k2, k3, k4⟩ := t4.cell id b blk j c e1 e2 e3
      have : okp m c = true := by
        simp only [List.all_eq_true] at hp
        refine hp blk ?_ c (List.mem_of_getElem? e3)
        exact List.mem_of_getElem? (by rw [List.getElem?_take, if_pos hid]; exact e2)
      exact ⟨k1, u, k2, k3.okp this, k4⟩
    · simp at e1
end
theorem dropAll {P : Program} {f : FuncId} {n k0 : Nat} {S : List Item} {fr : Fr} {H Hx : Heap} {res : AV} (hk : k0 = 0) (ho : okp 0 res = true) (h : Runs P f n k0 S fr H res Hx) : Runs P f n k0 S fr H res [] := by
  have := dropEnd (k0 := k0) 0 (by omega) (by simp) ho h
  simpa using this
theorem lastIs_at {Y : List Ti} (g : List UInt8) (h : Y ≠ []) (hl : Y.length ≤ 1048576) : lastIs Y g = ((Y.getD (IntKind.i64.wrap ((Y.length : Int) - 1)).toNat ⟨[], false, 0⟩).g && (Y.getD (IntKind.i64.wrap ((Y.length : Int) - 1)).toNat ⟨[], false, 0⟩).nm == g) := by
  have h1 := List.length_pos_iff.2 h
  have e : (IntKind.i64.wrap ((Y.length : Int) - 1)).toNat = Y.length - 1 := by rw [IntKind.wrap_i64]; omega
  rcases List.eq_nil_or_concat Y with rfl | ⟨zs, z, rfl⟩
  · exact absurd rfl h
  · rw [List.concat_eq_append] at *
    rw [lastIs_snoc, e]
    have : (zs ++ [z]).getD ((zs ++ [z]).length - 1) ⟨[], false, 0⟩ = z := by
      rw [List.getD_eq_getElem?_getD, List.length_append, List.length_singleton, Nat.add_sub_cancel, List.getElem?_append_right (Nat.le_refl _), Nat.sub_self]; rfl
    rw [this]
theorem stpR_no {p d : List UInt8} {l : List (List UInt8)} {mar : List UInt8} {i : Nat} {Y : List Ti} (h : Lib.hasPrefix (l.getD i []) p = false) : stpR p d l mar i Y = Y := by
  unfold stpR; rw [if_neg (by rw [h]; exact Bool.false_ne_true)]
theorem stpR_g {p d : List UInt8} {l : List (List UInt8)} {mar : List UInt8} {i : Nat} {Y : List Ti} (h : Lib.hasPrefix (l.getD i []) p = true) (h2 : (groupF (l.getD i []) p d).2 = true) :
    stpR p d l mar i Y = if sleL (groupF (l.getD i []) p d).1 mar || lastIs Y (groupF (l.getD i []) p d).1 then Y else Y ++ [⟨(groupF (l.getD i []) p d).1, true, 0⟩] := by
  unfold stpR; rw [if_pos h, if_pos h2]
theorem stpR_n {p d : List UInt8} {l : List (List UInt8)} {mar : List UInt8} {i : Nat} {Y : List Ti} (h : Lib.hasPrefix (l.getD i []) p = true) (h2 : (groupF (l.getD i []) p d).2 = false) :
    stpR p d l mar i Y = if sleL (l.getD i []) mar then Y else Y ++ [⟨l.getD i [], false, i⟩] := by
  unfold stpR; rw [if_pos h, if_neg (by rw [h2]; exact Bool.false_ne_true)]
abbrev boolEl (l : List Bool) : Nat → AV := fun i => .bool (l.getD i false)
def outL (l : List (List UInt8)) (mar : List UInt8) : List Bool := l.map fun x => sleL x mar
theorem out_at {l : List (List UInt8)} {mar : List UInt8} {i : Nat} (h : i < l.length) : (outL l mar).getD i false = sleL (l.getD i []) mar := by
  simp [outL, List.getD_eq_getElem?_getD, List.getElem?_eq_getElem h]
theorem out_len (l : List (List UInt8)) (mar : List UInt8) : (outL l mar).length = l.length := by simp [outL]
section
variable (p d : List UInt8) (l : List (List UInt8)) (mar : List UInt8)
theorem uptoR_len (hs : Sor l) {i : Nat} (h : i ≤ l.length) : (uptoR p d l mar i).length ≤ i := by
  rw [← (upto_R p d l mar hs h).1]; exact uptoL_len l p d mar i
theorem uptoR_pre {i j : Nat} (h : i ≤ j) : uptoR p d l mar i <+: uptoR p d l mar j := by
  induction j with
  | zero => obtain rfl : i = 0 := by omega
            exact List.prefix_rfl
  | succ j ih =>
    rcases Nat.lt_or_ge i (j + 1) with h1 | h1
    · refine (ih (by omega)).trans ?_
      simp only [uptoR]
      unfold stpR
      split
      · split
        · split
          · exact List.prefix_rfl
          · exact List.prefix_append _ _
        · split
          · exact List.prefix_rfl
          · exact List.prefix_append _ _
      · exact List.prefix_rfl
    · obtain rfl : i = j + 1 := by omega
      exact List.prefix_rfl
/-- the end without a full page -/
theorem end1 (hs : Sor l) {mx : Int} (h : (uptoR p d l mar l.length).length ≤ mx.toNat) : pgLL l p d mar mx = uptoR p d l mar l.length ∧ pgML l p d mar mx = false := by
  unfold pgLL pgML
  rw [full_R p d l mar hs]
  by_cases c : mx < 1
  · rw [if_pos c, if_pos c]
    exact ⟨(List.eq_nil_of_length_eq_zero (by omega)).symm, rfl⟩
  · rw [if_neg c, if_neg c]
    exact ⟨List.take_of_length_le h, decide_eq_false (by omega)⟩
/-- the end at a full page -/
theorem end2 (hs : Sor l) {mx : Int} {i : Nat} {x : Ti} (hi : i < l.length) (hx : uptoR p d l mar (i + 1) = uptoR p d l mar i ++ [x]) (h : (uptoR p d l mar i).length ≤ mx.toNat) (h2 : mx.toNat ≤ (uptoR p d l mar i).length) :
    pgLL l p d mar mx = uptoR p d l mar i ∧ pgML l p d mar mx = decide (0 < mx) := by
  obtain ⟨t, ht⟩ := uptoR_pre p d l mar (show i + 1 ≤ l.length from hi)
  rw [hx] at ht
  unfold pgLL pgML
  rw [full_R p d l mar hs, ← ht]
  by_cases c : mx < 1
  · rw [if_pos c, if_pos c]
    exact ⟨(List.eq_nil_of_length_eq_zero (by omega)).symm, (decide_eq_false (by omega)).symm⟩
  · rw [if_neg c, if_neg c]
    refine ⟨?_, ?_⟩
    · rw [List.append_assoc, List.take_append_of_le_length h2, List.take_of_length_le h]
    · rw [decide_eq_true (show 0 < mx by omega)]
      exact decide_eq_true (by simp; omega)
end
theorem nilImp (ys : List Ti) (h : ys = []) : Imp (.sl (Try.prog.cellsOf 64) 0 (fun _ => .bad) true) (.sl 22 ys.length (tiEl ys) true) := by
  subst h
  exact Imp.slEq rfl (fun i hi => absurd hi (Nat.not_lt_zero _))
theorem ti_snoc (ys : List Ti) (x : Ti) : Imp (.sl 22 (ys.length + 1) (apEl ys.length (tiEl ys) (elOf true 22 (tiA x))) true) (.sl 22 (ys ++ [x]).length (tiEl (ys ++ [x])) true) := by
  refine Imp.slEq (by simp) fun i hi => ?_
  rcases Nat.lt_or_ge i ys.length with h | h
  · rw [apEl_lt h]
    simp [tiEl, List.getD_eq_getElem?_getD, List.getElem?_append_left h]
  · have : i = ys.length := by omega
    subst this
    rw [apEl_ge (Nat.le_refl _)]
    simp [tiEl, elOf, tiA]

set_option maxHeartbeats 2000000 in
theorem rpage_ok (l : List (List UInt8)) (p d mar s4 s5 s6 : List UInt8) (mx fr0 : Int) (hl : l.length ≤ 1048576) (hs : ∀ x, x ∈ l → x.length ≤ 1048576) (hd : d.length ≤ 1048576) (hso : Sor l) : FnOK Try.prog 50 [.sl 1 l.length (strEl l) false, .sl 1 l.length (boolEl (outL l mar)) false, .agg [.str p, .str d, .str mar, .str s4, .str s5, .str s6, .int .i64 mx, .int .i64 fr0]] [] (.agg [.sl 22 (pgLL l p d mar mx).length (tiEl (pgLL l p d mar mx)) false, .bool (pgML l p d mar mx)]) [] := by
  refine FnOK.of_runs Try.func50 rfl (Nat.le_of_ble_eq_true rfl) ?_
  refine Runs.seq ?_
  refine Runs.reg [] [] rfl (by (try simp only [wrap_i64', wrap_u8, wrap_u16, wrap_u32, wrap_u64, wrap_i32, List.length_cons, List.length_nil, List.length_append, List.length_map, tmodN, tdivN]); and_intros <;> first | exact True.intro | omega | skip) ?_
  refine Runs.seq ?_
  refine Runs.reg [] [] rfl (by (try simp only [wrap_i64', wrap_u8, wrap_u16, wrap_u32, wrap_u64, wrap_i32, List.length_cons, List.length_nil, List.length_append, List.length_map, tmodN, tdivN]); and_intros <;> first | exact True.intro | omega | skip) ?_
  refine Runs.seq ?_
  refine Runs.seq ?_
  refine Runs.reg [] [] rfl (by (try simp only [wrap_i64', wrap_u8, wrap_u16, wrap_u32, wrap_u64, wrap_i32, List.length_cons, List.length_nil, List.length_append, List.length_map, tmodN, tdivN]); and_intros <;> first | exact True.intro | omega | skip) ?_
  refine Runs.block ?_
  -- loop 0
  refine convH (H2 := [[.str p, .str d, .str mar, .str s4, .str s5, .str s6, .int .i64 mx, .int .i64 fr0], [.sl (Try.prog.cellsOf 64) 0 (fun _ => .bad) true, .bool false], [.sl 22 (uptoR p d l mar 0).length (tiEl (uptoR p d l mar 0)) true, .bool false]]) (by rfl) (fun id blk2 j c2 e1 e2 => by rcases id with _ | _ | _ | id; exact ⟨blk2, c2, e1, e2, Imp.refl _⟩; exact ⟨blk2, c2, e1, e2, Imp.refl _⟩; (cases e1; rcases j with _ | j; (cases e2; exact ⟨_, _, rfl, rfl, nilImp _ rfl⟩); exact ⟨_, _, rfl, e2, Imp.refl _⟩); simp at e1) ?_
  refine Runs.loopF (σ := Nat) (fun i => i ≤ l.length ∧ (uptoR p d l mar i).length ≤ mx.toNat) (fun i => [(0, .sl 1 l.length (strEl l) false), (1, .sl 1 l.length (boolEl (outL l mar)) false), (5, .ptr 0 0), (6, .ptr 1 0), (7, .ptr 2 0), (8, .int .i64 i)]) (fun i => [[.str p, .str d, .str mar, .str s4, .str s5, .str s6, .int .i64 mx, .int .i64 fr0], [.sl (Try.prog.cellsOf 64) 0 (fun _ => .bad) true, .bool false], [.sl 22 (uptoR p d l mar i).length (tiEl (uptoR p d l mar i)) true, .bool false]]) (fun i => l.length - i) (0) (by exact ⟨Nat.zero_le _, Nat.zero_le _⟩) (by exact agree_cons rfl (by first | with_reducible rfl | (refine congrArg (AV.int _) ?_; (try simp only [wrap_i64', wrap_u8, wrap_u16, wrap_u32, wrap_u64, wrap_i32, List.length_cons, List.length_nil, List.length_append, List.length_map, tmodN, tdivN]); omega) | rfl | skip) (agree_cons rfl (by first | with_reducible rfl | (refine congrArg (AV.int _) ?_; (try simp only [wrap_i64', wrap_u8, wrap_u16, wrap_u32, wrap_u64, wrap_i32, List.length_cons, List.length_nil, List.length_append, List.length_map, tmodN, tdivN]); omega) | rfl | skip) (agree_cons rfl (by first | with_reducible rfl | (refine congrArg (AV.int _) ?_; (try simp only [wrap_i64', wrap_u8, wrap_u16, wrap_u32, wrap_u64, wrap_i32, List.length_cons, List.length_nil, List.length_append, List.length_map, tmodN, tdivN]); omega) | rfl | skip) (agree_cons rfl (by first | with_reducible rfl | (refine congrArg (AV.int _) ?_; (try simp only [wrap_i64', wrap_u8, wrap_u16, wrap_u32, wrap_u64, wrap_i32, List.length_cons, List.length_nil, List.length_append, List.length_map, tmodN, tdivN]); omega) | rfl | skip) (agree_cons rfl (by first | with_reducible rfl | (refine congrArg (AV.int _) ?_; (try simp only [wrap_i64', wrap_u8, wrap_u16, wrap_u32, wrap_u64, wrap_i32, List.length_cons, List.length_nil, List.length_append, List.length_map, tmodN, tdivN]); omega) | rfl | skip) (agree_cons rfl (by first | with_reducible rfl | (refine congrArg (AV.int _) ?_; (try simp only [wrap_i64', wrap_u8, wrap_u16, wrap_u32, wrap_u64, wrap_i32, List.length_cons, List.length_nil, List.length_append, List.length_map, tmodN, tdivN]); omega) | rfl | skip) (trivial))))))) (by rfl) (fun i hi ih => ?_)
  obtain ⟨hi1, hi2⟩ := hi; have hY0 : uptoR p d l mar (i + 1) = stpR p d l mar i (uptoR p d l mar i) := rfl; have hYl := uptoR_len p d l mar hso hi1
  refine Runs.seq ?_
  refine Runs.seq ?_
  refine Runs.reg [] [0, 1] rfl (by (try simp only [wrap_i64', wrap_u8, wrap_u16, wrap_u32, wrap_u64, wrap_i32, List.length_cons, List.length_nil, List.length_append, List.length_map, tmodN, tdivN]); and_intros <;> first | exact True.intro | omega | skip) ?_
  refine Runs.condS rfl (fun g15 => ?_) (fun g15 => ?_)
  · try simp only [decide_eq_true_eq, decide_eq_false_iff_not, notT, notF, beq_iff_eq, beq_eq_false_iff_ne, bne_iff_ne, bne_eq_false_iff_eq, tmodN, tdivN, Int.not_lt, Int.not_le] at g15
    refine Runs.skip ?_
    refine Runs.seq ?_
    refine Runs.block ?_
    refine Runs.seq ?_
    refine Runs.seq ?_
    refine Runs.regD [(6, { res := .bool (Lib.hasPrefix (l.getD i []) p) })] [0, 1] rfl rfl rfl (by and_intros <;> first | exact True.intro | omega | exact begins_ok _ p) ?_
    refine Runs.condS rfl (fun g25 => ?_) (fun g25 => ?_)
    · try simp only [decide_eq_true_eq, decide_eq_false_iff_not, notT, notF, beq_iff_eq, beq_eq_false_iff_ne, bne_iff_ne, bne_eq_false_iff_eq, tmodN, tdivN, Int.not_lt, Int.not_le] at g25
      have hun : uptoR p d l mar (i + 1) = (uptoR p d l mar i) := by (rw [hY0, stpR_no g25])
      refine Runs.exit rfl ?_
      refine Runs.reg [] [] rfl (by (try simp only [wrap_i64', wrap_u8, wrap_u16, wrap_u32, wrap_u64, wrap_i32, List.length_cons, List.length_nil, List.length_append, List.length_map, tmodN, tdivN]); and_intros <;> first | exact True.intro | omega | skip) ?_
      exact ih (i + 1) _ _ (by first | (rw [hun]; exact ⟨by omega, hi2⟩) | (rw [hx]; exact ⟨by omega, by simp; omega⟩)) (by omega) (by exact agree_cons rfl (by first | with_reducible rfl | (refine congrArg (AV.int _) ?_; (try simp only [wrap_i64', wrap_u8, wrap_u16, wrap_u32, wrap_u64, wrap_i32, List.length_cons, List.length_nil, List.length_append, List.length_map, tmodN, tdivN]); omega) | rfl | skip) (agree_cons rfl (by first | with_reducible rfl | (refine congrArg (AV.int _) ?_; (try simp only [wrap_i64', wrap_u8, wrap_u16, wrap_u32, wrap_u64, wrap_i32, List.length_cons, List.length_nil, List.length_append, List.length_map, tmodN, tdivN]); omega) | rfl | skip) (agree_cons rfl (by first | with_reducible rfl | (refine congrArg (AV.int _) ?_; (try simp only [wrap_i64', wrap_u8, wrap_u16, wrap_u32, wrap_u64, wrap_i32, List.length_cons, List.length_nil, List.length_append, List.length_map, tmodN, tdivN]); omega) | rfl | skip) (agree_cons rfl (by first | with_reducible rfl | (refine congrArg (AV.int _) ?_; (try simp only [wrap_i64', wrap_u8, wrap_u16, wrap_u32, wrap_u64, wrap_i32, List.length_cons, List.length_nil, List.length_append, List.length_map, tmodN, tdivN]); omega) | rfl | skip) (agree_cons rfl (by first | with_reducible rfl | (refine congrArg (AV.int _) ?_; (try simp only [wrap_i64', wrap_u8, wrap_u16, wrap_u32, wrap_u64, wrap_i32, List.length_cons, List.length_nil, List.length_append, List.length_map, tmodN, tdivN]); omega) | rfl | skip) (agree_cons rfl (by first | with_reducible rfl | (refine congrArg (AV.int _) ?_; (try simp only [wrap_i64', wrap_u8, wrap_u16, wrap_u32, wrap_u64, wrap_i32, List.length_cons, List.length_nil, List.length_append, List.length_map, tmodN, tdivN]); omega) | rfl | skip) (trivial))))))) (by first | (rw [hun]; done) | (rw [hun]; rfl) | (rw [hx]; done) | (rw [hx]; rfl))
    · try simp only [decide_eq_true_eq, decide_eq_false_iff_not, notT, notF, beq_iff_eq, beq_eq_false_iff_ne, bne_iff_ne, bne_eq_false_iff_eq, tmodN, tdivN, Int.not_lt, Int.not_le] at g25
      refine Runs.skip ?_
      refine Runs.seq ?_
      refine Runs.reg [] [0, 1, 4] rfl (by and_intros <;> first | exact True.intro | omega | exact Nat.le_of_ble_eq_true rfl) ?_
      refine Runs.seq ?_
      refine Runs.regD [(8, { res := .tup [.str (groupF (l.getD i []) p d).1, .bool (groupF (l.getD i []) p d).2] })] [0, 1, 10, 11] rfl rfl rfl (by and_intros <;> first | exact True.intro | omega | exact rgroup_ok _ p d (by show (l.getD i []).length ≤ _; have := hs (l.getD i []) (by rw [List.getD_eq_getElem?_getD, List.getElem?_eq_getElem (show i < l.length by omega)]; exact List.getElem_mem _); omega) (by omega)) ?_
      refine Runs.seq ?_
      refine Runs.seq ?_
      refine Runs.reg [] [0] rfl (by (try simp only [wrap_i64', wrap_u8, wrap_u16, wrap_u32, wrap_u64, wrap_i32, List.length_cons, List.length_nil, List.length_append, List.length_map, tmodN, tdivN]); and_intros <;> first | exact True.intro | omega | skip) ?_
      refine Runs.condS rfl (fun g44 => ?_) (fun g44 => ?_)
      · try simp only [decide_eq_true_eq, decide_eq_false_iff_not, notT, notF, beq_iff_eq, beq_eq_false_iff_ne, bne_iff_ne, bne_eq_false_iff_eq, tmodN, tdivN, Int.not_lt, Int.not_le] at g44
        refine Runs.seq ?_
        refine Runs.reg [] [0] rfl (by and_intros <;> first | exact True.intro | omega | exact Nat.le_of_ble_eq_true rfl) ?_
        refine Runs.seq ?_
        refine Runs.region ?_
        refine Runs.restTo 5 [] [0, 30] rfl (by (try simp only [wrap_i64', wrap_u8, wrap_u16, wrap_u32, wrap_u64, wrap_i32, List.length_cons, List.length_nil, List.length_append, List.length_map, tmodN, tdivN]); and_intros <;> first | exact True.intro | omega | skip) ?_
        refine Runs.splitS 51 rfl (fun g51 => ?_) (fun g51 => ?_)
        · try simp only [decide_eq_true_eq, decide_eq_false_iff_not, notT, notF, beq_iff_eq, beq_eq_false_iff_ne, bne_iff_ne, bne_eq_false_iff_eq, tmodN, tdivN, Int.not_lt, Int.not_le] at g51
          have hun : uptoR p d l mar (i + 1) = (uptoR p d l mar i) := by (rw [hY0, stpR_g g25 g44, show sleL (groupF (l.getD i []) p d).1 mar = true from g51]; rfl)
          refine Runs.rest [] [0, 30] rfl (by (try simp only [wrap_i64', wrap_u8, wrap_u16, wrap_u32, wrap_u64, wrap_i32, List.length_cons, List.length_nil, List.length_append, List.length_map, tmodN, tdivN]); and_intros <;> first | exact True.intro | omega | skip) ?_
          refine Runs.condT rfl ?_
          refine Runs.exit rfl ?_
          refine Runs.reg [] [] rfl (by (try simp only [wrap_i64', wrap_u8, wrap_u16, wrap_u32, wrap_u64, wrap_i32, List.length_cons, List.length_nil, List.length_append, List.length_map, tmodN, tdivN]); and_intros <;> first | exact True.intro | omega | skip) ?_
          refine Runs.drop 3 (Nat.zero_le _) rfl ?_
          exact ih (i + 1) _ _ (by first | (rw [hun]; exact ⟨by omega, hi2⟩) | (rw [hx]; exact ⟨by omega, by simp; omega⟩)) (by omega) (by exact agree_cons rfl (by first | with_reducible rfl | (refine congrArg (AV.int _) ?_; (try simp only [wrap_i64', wrap_u8, wrap_u16, wrap_u32, wrap_u64, wrap_i32, List.length_cons, List.length_nil, List.length_append, List.length_map, tmodN, tdivN]); omega) | rfl | skip) (agree_cons rfl (by first | with_reducible rfl | (refine congrArg (AV.int _) ?_; (try simp only [wrap_i64', wrap_u8, wrap_u16, wrap_u32, wrap_u64, wrap_i32, List.length_cons, List.length_nil, List.length_append, List.length_map, tmodN, tdivN]); omega) | rfl | skip) (agree_cons rfl (by first | with_reducible rfl | (refine congrArg (AV.int _) ?_; (try simp only [wrap_i64', wrap_u8, wrap_u16, wrap_u32, wrap_u64, wrap_i32, List.length_cons, List.length_nil, List.length_append, List.length_map, tmodN, tdivN]); omega) | rfl | skip) (agree_cons rfl (by first | with_reducible rfl | (refine congrArg (AV.int _) ?_; (try simp only [wrap_i64', wrap_u8, wrap_u16, wrap_u32, wrap_u64, wrap_i32, List.length_cons, List.length_nil, List.length_append, List.length_map, tmodN, tdivN]); omega) | rfl | skip) (agree_cons rfl (by first | with_reducible rfl | (refine congrArg (AV.int _) ?_; (try simp only [wrap_i64', wrap_u8, wrap_u16, wrap_u32, wrap_u64, wrap_i32, List.length_cons, List.length_nil, List.length_append, List.length_map, tmodN, tdivN]); omega) | rfl | skip) (agree_cons rfl (by first | with_reducible rfl | (refine congrArg (AV.int _) ?_; (try simp only [wrap_i64', wrap_u8, wrap_u16, wrap_u32, wrap_u64, wrap_i32, List.length_cons, List.length_nil, List.length_append, List.length_map, tmodN, tdivN]); omega) | rfl | skip) (trivial))))))) (by first | (rw [hun]; done) | (rw [hun]; rfl) | (rw [hx]; done) | (rw [hx]; rfl))
        · try simp only [decide_eq_true_eq, decide_eq_false_iff_not, notT, notF, beq_iff_eq, beq_eq_false_iff_ne, bne_iff_ne, bne_eq_false_iff_eq, tmodN, tdivN, Int.not_lt, Int.not_le] at g51
          refine Runs.restTo 5 [] [0, 30] rfl (by (try simp only [wrap_i64', wrap_u8, wrap_u16, wrap_u32, wrap_u64, wrap_i32, List.length_cons, List.length_nil, List.length_append, List.length_map, tmodN, tdivN]); and_intros <;> first | exact True.intro | omega | skip) ?_
          refine Runs.splitS 56 rfl (fun g56 => ?_) (fun g56 => ?_)
          · try simp only [decide_eq_true_eq, decide_eq_false_iff_not, notT, notF, beq_iff_eq, beq_eq_false_iff_ne, bne_iff_ne, bne_eq_false_iff_eq, tmodN, tdivN, Int.not_lt, Int.not_le] at g56
            refine Runs.restTo 11 [] [0, 30] rfl (by (try simp only [wrap_i64', wrap_u8, wrap_u16, wrap_u32, wrap_u64, wrap_i32, List.length_cons, List.length_nil, List.length_append, List.length_map, tmodN, tdivN]); and_intros <;> first | exact True.intro | omega | skip) ?_
            refine Runs.splitS 67 rfl (fun g67 => ?_) (fun g67 => ?_)
            · try simp only [decide_eq_true_eq, decide_eq_false_iff_not, notT, notF, beq_iff_eq, beq_eq_false_iff_ne, bne_iff_ne, bne_eq_false_iff_eq, tmodN, tdivN, Int.not_lt, Int.not_le] at g67
              refine Runs.rest [] [0, 30] rfl (by (try simp only [wrap_i64', wrap_u8, wrap_u16, wrap_u32, wrap_u64, wrap_i32, List.length_cons, List.length_nil, List.length_append, List.length_map, tmodN, tdivN]); and_intros <;> first | exact True.intro | omega | skip) ?_
              refine Runs.condS rfl (fun g80 => ?_) (fun g80 => ?_)
              · try simp only [decide_eq_true_eq, decide_eq_false_iff_not, notT, notF, beq_iff_eq, beq_eq_false_iff_ne, bne_iff_ne, bne_eq_false_iff_eq, tmodN, tdivN, Int.not_lt, Int.not_le] at g80
                have hun : uptoR p d l mar (i + 1) = (uptoR p d l mar i) := by (rw [hY0, stpR_g g25 g44, lastIs_at _ (List.length_pos_iff.1 (by omega)) (by omega), g67, g80]; simp)
                refine Runs.exit rfl ?_
                refine Runs.reg [] [] rfl (by (try simp only [wrap_i64', wrap_u8, wrap_u16, wrap_u32, wrap_u64, wrap_i32, List.length_cons, List.length_nil, List.length_append, List.length_map, tmodN, tdivN]); and_intros <;> first | exact True.intro | omega | skip) ?_
                refine Runs.drop 3 (Nat.zero_le _) rfl ?_
                exact ih (i + 1) _ _ (by first | (rw [hun]; exact ⟨by omega, hi2⟩) | (rw [hx]; exact ⟨by omega, by simp; omega⟩)) (by omega) (by exact agree_cons rfl (by first | with_reducible rfl | (refine congrArg (AV.int _) ?_; (try simp only [wrap_i64', wrap_u8, wrap_u16, wrap_u32, wrap_u64, wrap_i32, List.length_cons, List.length_nil, List.length_append, List.length_map, tmodN, tdivN]); omega) | rfl | skip) (agree_cons rfl (by first | with_reducible rfl | (refine congrArg (AV.int _) ?_; (try simp only [wrap_i64', wrap_u8, wrap_u16, wrap_u32, wrap_u64, wrap_i32, List.length_cons, List.length_nil, List.length_append, List.length_map, tmodN, tdivN]); omega) | rfl | skip) (agree_cons rfl (by first | with_reducible rfl | (refine congrArg (AV.int _) ?_; (try simp only [wrap_i64', wrap_u8, wrap_u16, wrap_u32, wrap_u64, wrap_i32, List.length_cons, List.length_nil, List.length_append, List.length_map, tmodN, tdivN]); omega) | rfl | skip) (agree_cons rfl (by first | with_reducible rfl | (refine congrArg (AV.int _) ?_; (try simp only [wrap_i64', wrap_u8, wrap_u16, wrap_u32, wrap_u64, wrap_i32, List.length_cons, List.length_nil, List.length_append, List.length_map, tmodN, tdivN]); omega) | rfl | skip) (agree_cons rfl (by first | with_reducible rfl | (refine congrArg (AV.int _) ?_; (try simp only [wrap_i64', wrap_u8, wrap_u16, wrap_u32, wrap_u64, wrap_i32, List.length_cons, List.length_nil, List.length_append, List.length_map, tmodN, tdivN]); omega) | rfl | skip) (agree_cons rfl (by first | with_reducible rfl | (refine congrArg (AV.int _) ?_; (try simp only [wrap_i64', wrap_u8, wrap_u16, wrap_u32, wrap_u64, wrap_i32, List.length_cons, List.length_nil, List.length_append, List.length_map, tmodN, tdivN]); omega) | rfl | skip) (trivial))))))) (by first | (rw [hun]; done) | (rw [hun]; rfl) | (rw [hx]; done) | (rw [hx]; rfl))
              · try simp only [decide_eq_true_eq, decide_eq_false_iff_not, notT, notF, beq_iff_eq, beq_eq_false_iff_ne, bne_iff_ne, bne_eq_false_iff_eq, tmodN, tdivN, Int.not_lt, Int.not_le] at g80
                have hx : uptoR p d l mar (i + 1) = (uptoR p d l mar i) ++ [⟨(groupF (l.getD i []) p d).1, true, 0⟩] := by (rw [hY0, stpR_g g25 g44, show sleL (groupF (l.getD i []) p d).1 mar = false from g51, lastIs_at _ (List.length_pos_iff.1 (by omega)) (by omega), g67, beq_eq_false_iff_ne.2 g80]; rfl)
                refine Runs.skip ?_
                refine Runs.seq ?_
                refine Runs.seq ?_
                refine Runs.meet (σ := Ti) (fun x => uptoR p d l mar (i + 1) = (uptoR p d l mar i) ++ [x]) (fun x => [(0, .sl 1 l.length (strEl l) false), (1, .sl 1 l.length (boolEl (outL l mar)) false), (5, .ptr 0 0), (6, .ptr 1 0), (7, .ptr 2 0), (8, .int .i64 i), (9, .ptr 3 0), (91, .bool (decide (max mx 0 ≤ (((uptoR p d l mar i).length : Nat) : Int))))]) (fun x => [[.str p, .str d, .str mar, .str s4, .str s5, .str s6, .int .i64 mx, .int .i64 fr0], [.sl (Try.prog.cellsOf 64) 0 (fun _ => .bad) true, .bool false], [.sl 22 (uptoR p d l mar i).length (tiEl (uptoR p d l mar i)) true, .bool false], tiA x]) (fun x hx => ?_) (fun meet_J => ?_)
                · skip
                  refine Runs.condS rfl (fun g91 => ?_) (fun g91 => ?_)
                  · try simp only [decide_eq_true_eq, decide_eq_false_iff_not, notT, notF, beq_iff_eq, beq_eq_false_iff_ne, bne_iff_ne, bne_eq_false_iff_eq, tmodN, tdivN, Int.not_lt, Int.not_le] at g91
                    obtain ⟨e1, e2⟩ := end2 p d l mar hso (show i < l.length by omega) hx hi2 (by omega)
                    refine Runs.seq ?_
                    refine Runs.reg [] [] rfl (by and_intros <;> first | exact True.intro | omega | exact Nat.le_of_ble_eq_true rfl) ?_
                    refine Runs.seq ?_
                    refine Runs.reg [] [] rfl (by and_intros <;> first | exact True.intro | omega | exact Nat.le_of_ble_eq_true rfl) ?_
                    exact dropAll rfl rfl (Runs.retH Try.func50 rfl rfl (by rw [e1, e2]; rfl) (by rfl))
                  · try simp only [decide_eq_true_eq, decide_eq_false_iff_not, notT, notF, beq_iff_eq, beq_eq_false_iff_ne, bne_iff_ne, bne_eq_false_iff_eq, tmodN, tdivN, Int.not_lt, Int.not_le] at g91
                    refine Runs.skip ?_
                    refine Runs.region ?_
                    refine Runs.restTo 1 [] [] rfl (by and_intros <;> first | exact True.intro | omega | exact Nat.le_of_ble_eq_true rfl) ?_
                    refine Runs.op rfl rfl rfl (OpSem.loadTake rfl rfl rfl rfl rfl rfl) ?_
                    refine Runs.restTo 3 [] [] rfl (by and_intros <;> first | exact True.intro | omega | exact Nat.le_of_ble_eq_true rfl) ?_
                    refine Runs.conv 101 (a := .sl 22 ((uptoR p d l mar i) ++ [x]).length (tiEl ((uptoR p d l mar i) ++ [x])) true) (by exact ti_snoc (uptoR p d l mar i) x) (.inr (by intro vs h; cases h)) (by intro vs h; cases h) ?_
                    refine Runs.restTo 1 [] [] rfl (by and_intros <;> first | exact True.intro | omega | exact Nat.le_of_ble_eq_true rfl) ?_
                    refine Runs.op rfl rfl rfl (OpSem.storeMove (s := 101) rfl rfl rfl rfl rfl rfl) ?_
                    refine Runs.rest [] [] rfl (by and_intros <;> first | exact True.intro | omega | exact Nat.le_of_ble_eq_true rfl) ?_
                    refine Runs.inBlock ?_
                    refine Runs.reg [] [] rfl (by (try simp only [wrap_i64', wrap_u8, wrap_u16, wrap_u32, wrap_u64, wrap_i32, List.length_cons, List.length_nil, List.length_append, List.length_map, tmodN, tdivN]); and_intros <;> first | exact True.intro | omega | skip) ?_
                    refine Runs.drop 3 (Nat.zero_le _) rfl ?_
                    exact ih (i + 1) _ _ (by first | (rw [hun]; exact ⟨by omega, hi2⟩) | (rw [hx]; exact ⟨by omega, by simp; omega⟩)) (by omega) (by exact agree_cons rfl (by first | with_reducible rfl | (refine congrArg (AV.int _) ?_; (try simp only [wrap_i64', wrap_u8, wrap_u16, wrap_u32, wrap_u64, wrap_i32, List.length_cons, List.length_nil, List.length_append, List.length_map, tmodN, tdivN]); omega) | rfl | skip) (agree_cons rfl (by first | with_reducible rfl | (refine congrArg (AV.int _) ?_; (try simp only [wrap_i64', wrap_u8, wrap_u16, wrap_u32, wrap_u64, wrap_i32, List.length_cons, List.length_nil, List.length_append, List.length_map, tmodN, tdivN]); omega) | rfl | skip) (agree_cons rfl (by first | with_reducible rfl | (refine congrArg (AV.int _) ?_; (try simp only [wrap_i64', wrap_u8, wrap_u16, wrap_u32, wrap_u64, wrap_i32, List.length_cons, List.length_nil, List.length_append, List.length_map, tmodN, tdivN]); omega) | rfl | skip) (agree_cons rfl (by first | with_reducible rfl | (refine congrArg (AV.int _) ?_; (try simp only [wrap_i64', wrap_u8, wrap_u16, wrap_u32, wrap_u64, wrap_i32, List.length_cons, List.length_nil, List.length_append, List.length_map, tmodN, tdivN]); omega) | rfl | skip) (agree_cons rfl (by first | with_reducible rfl | (refine congrArg (AV.int _) ?_; (try simp only [wrap_i64', wrap_u8, wrap_u16, wrap_u32, wrap_u64, wrap_i32, List.length_cons, List.length_nil, List.length_append, List.length_map, tmodN, tdivN]); omega) | rfl | skip) (agree_cons rfl (by first | with_reducible rfl | (refine congrArg (AV.int _) ?_; (try simp only [wrap_i64', wrap_u8, wrap_u16, wrap_u32, wrap_u64, wrap_i32, List.length_cons, List.length_nil, List.length_append, List.length_map, tmodN, tdivN]); omega) | rfl | skip) (trivial))))))) (by first | (rw [hun]; done) | (rw [hun]; rfl) | (rw [hx]; done) | (rw [hx]; rfl))
                · skip
                  refine Runs.reg [] [] rfl (by (try simp only [wrap_i64', wrap_u8, wrap_u16, wrap_u32, wrap_u64, wrap_i32, List.length_cons, List.length_nil, List.length_append, List.length_map, tmodN, tdivN]); and_intros <;> first | exact True.intro | omega | skip) ?_
                  exact meet_J (⟨(groupF (l.getD i []) p d).1, true, 0⟩) _ _ (by exact hx) (by exact agree_cons rfl (by first | with_reducible rfl | (refine congrArg (AV.int _) ?_; (try simp only [wrap_i64', wrap_u8, wrap_u16, wrap_u32, wrap_u64, wrap_i32, List.length_cons, List.length_nil, List.length_append, List.length_map, tmodN, tdivN]); omega) | rfl | skip) (agree_cons rfl (by first | with_reducible rfl | (refine congrArg (AV.int _) ?_; (try simp only [wrap_i64', wrap_u8, wrap_u16, wrap_u32, wrap_u64, wrap_i32, List.length_cons, List.length_nil, List.length_append, List.length_map, tmodN, tdivN]); omega) | rfl | skip) (agree_cons rfl (by first | with_reducible rfl | (refine congrArg (AV.int _) ?_; (try simp only [wrap_i64', wrap_u8, wrap_u16, wrap_u32, wrap_u64, wrap_i32, List.length_cons, List.length_nil, List.length_append, List.length_map, tmodN, tdivN]); omega) | rfl | skip) (agree_cons rfl (by first | with_reducible rfl | (refine congrArg (AV.int _) ?_; (try simp only [wrap_i64', wrap_u8, wrap_u16, wrap_u32, wrap_u64, wrap_i32, List.length_cons, List.length_nil, List.length_append, List.length_map, tmodN, tdivN]); omega) | rfl | skip) (agree_cons rfl (by first | with_reducible rfl | (refine congrArg (AV.int _) ?_; (try simp only [wrap_i64', wrap_u8, wrap_u16, wrap_u32, wrap_u64, wrap_i32, List.length_cons, List.length_nil, List.length_append, List.length_map, tmodN, tdivN]); omega) | rfl | skip) (agree_cons rfl (by first | with_reducible rfl | (refine congrArg (AV.int _) ?_; (try simp only [wrap_i64', wrap_u8, wrap_u16, wrap_u32, wrap_u64, wrap_i32, List.length_cons, List.length_nil, List.length_append, List.length_map, tmodN, tdivN]); omega) | rfl | skip) (agree_cons rfl (by first | with_reducible rfl | (refine congrArg (AV.int _) ?_; (try simp only [wrap_i64', wrap_u8, wrap_u16, wrap_u32, wrap_u64, wrap_i32, List.length_cons, List.length_nil, List.length_append, List.length_map, tmodN, tdivN]); omega) | rfl | skip) (agree_cons rfl (by show AV.bool (decide ((if mx < 0 then 0 else mx) ≤ _)) = _; rw [show (if mx < 0 then 0 else mx) = max mx 0 by (split <;> omega)]) (trivial))))))))) (by rfl)
            · try simp only [decide_eq_true_eq, decide_eq_false_iff_not, notT, notF, beq_iff_eq, beq_eq_false_iff_ne, bne_iff_ne, bne_eq_false_iff_eq, tmodN, tdivN, Int.not_lt, Int.not_le] at g67
              have hx : uptoR p d l mar (i + 1) = (uptoR p d l mar i) ++ [⟨(groupF (l.getD i []) p d).1, true, 0⟩] := by (rw [hY0, stpR_g g25 g44, show sleL (groupF (l.getD i []) p d).1 mar = false from g51, lastIs_at _ (List.length_pos_iff.1 (by omega)) (by omega), g67]; rfl)
              refine Runs.rest [] [0, 30] rfl (by (try simp only [wrap_i64', wrap_u8, wrap_u16, wrap_u32, wrap_u64, wrap_i32, List.length_cons, List.length_nil, List.length_append, List.length_map, tmodN, tdivN]); and_intros <;> first | exact True.intro | omega | skip) ?_
              refine Runs.condF rfl ?_
              refine Runs.skip ?_
              refine Runs.seq ?_
              refine Runs.seq ?_
              refine Runs.meet (σ := Ti) (fun x => uptoR p d l mar (i + 1) = (uptoR p d l mar i) ++ [x]) (fun x => [(0, .sl 1 l.length (strEl l) false), (1, .sl 1 l.length (boolEl (outL l mar)) false), (5, .ptr 0 0), (6, .ptr 1 0), (7, .ptr 2 0), (8, .int .i64 i), (9, .ptr 3 0), (91, .bool (decide (max mx 0 ≤ (((uptoR p d l mar i).length : Nat) : Int))))]) (fun x => [[.str p, .str d, .str mar, .str s4, .str s5, .str s6, .int .i64 mx, .int .i64 fr0], [.sl (Try.prog.cellsOf 64) 0 (fun _ => .bad) true, .bool false], [.sl 22 (uptoR p d l mar i).length (tiEl (uptoR p d l mar i)) true, .bool false], tiA x]) (fun x hx => ?_) (fun meet_J => ?_)
              · skip
                refine Runs.condS rfl (fun g91 => ?_) (fun g91 => ?_)
                · try simp only [decide_eq_true_eq, decide_eq_false_iff_not, notT, notF, beq_iff_eq, beq_eq_false_iff_ne, bne_iff_ne, bne_eq_false_iff_eq, tmodN, tdivN, Int.not_lt, Int.not_le] at g91
                  obtain ⟨e1, e2⟩ := end2 p d l mar hso (show i < l.length by omega) hx hi2 (by omega)
                  refine Runs.seq ?_
                  refine Runs.reg [] [] rfl (by and_intros <;> first | exact True.intro | omega | exact Nat.le_of_ble_eq_true rfl) ?_
                  refine Runs.seq ?_
                  refine Runs.reg [] [] rfl (by and_intros <;> first | exact True.intro | omega | exact Nat.le_of_ble_eq_true rfl) ?_
                  exact dropAll rfl rfl (Runs.retH Try.func50 rfl rfl (by rw [e1, e2]; rfl) (by rfl))
                · try simp only [decide_eq_true_eq, decide_eq_false_iff_not, notT, notF, beq_iff_eq, beq_eq_false_iff_ne, bne_iff_ne, bne_eq_false_iff_eq, tmodN, tdivN, Int.not_lt, Int.not_le] at g91
                  refine Runs.skip ?_
                  refine Runs.region ?_
                  refine Runs.restTo 1 [] [] rfl (by and_intros <;> first | exact True.intro | omega | exact Nat.le_of_ble_eq_true rfl) ?_
                  refine Runs.op rfl rfl rfl (OpSem.loadTake rfl rfl rfl rfl rfl rfl) ?_
                  refine Runs.restTo 3 [] [] rfl (by and_intros <;> first | exact True.intro | omega | exact Nat.le_of_ble_eq_true rfl) ?_
                  refine Runs.conv 101 (a := .sl 22 ((uptoR p d l mar i) ++ [x]).length (tiEl ((uptoR p d l mar i) ++ [x])) true) (by exact ti_snoc (uptoR p d l mar i) x) (.inr (by intro vs h; cases h)) (by intro vs h; cases h) ?_
                  refine Runs.restTo 1 [] [] rfl (by and_intros <;> first | exact True.intro | omega | exact Nat.le_of_ble_eq_true rfl) ?_
                  refine Runs.op rfl rfl rfl (OpSem.storeMove (s := 101) rfl rfl rfl rfl rfl rfl) ?_
                  refine Runs.rest [] [] rfl (by and_intros <;> first | exact True.intro | omega | exact Nat.le_of_ble_eq_true rfl) ?_
                  refine Runs.inBlock ?_
                  refine Runs.reg [] [] rfl (by (try simp only [wrap_i64', wrap_u8, wrap_u16, wrap_u32, wrap_u64, wrap_i32, List.length_cons, List.length_nil, List.length_append, List.length_map, tmodN, tdivN]); and_intros <;> first | exact True.intro | omega | skip) ?_
                  refine Runs.drop 3 (Nat.zero_le _) rfl ?_
                  exact ih (i + 1) _ _ (by first | (rw [hun]; exact ⟨by omega, hi2⟩) | (rw [hx]; exact ⟨by omega, by simp; omega⟩)) (by omega) (by exact agree_cons rfl (by first | with_reducible rfl | (refine congrArg (AV.int _) ?_; (try simp only [wrap_i64', wrap_u8, wrap_u16, wrap_u32, wrap_u64, wrap_i32, List.length_cons, List.length_nil, List.length_append, List.length_map, tmodN, tdivN]); omega) | rfl | skip) (agree_cons rfl (by first | with_reducible rfl | (refine congrArg (AV.int _) ?_; (try simp only [wrap_i64', wrap_u8, wrap_u16, wrap_u32, wrap_u64, wrap_i32, List.length_cons, List.length_nil, List.length_append, List.length_map, tmodN, tdivN]); omega) | rfl | skip) (agree_cons rfl (by first | with_reducible rfl | (refine congrArg (AV.int _) ?_; (try simp only [wrap_i64', wrap_u8, wrap_u16, wrap_u32, wrap_u64, wrap_i32, List.length_cons, List.length_nil, List.length_append, List.length_map, tmodN, tdivN]); omega) | rfl | skip) (agree_cons rfl (by first | with_reducible rfl | (refine congrArg (AV.int _) ?_; (try simp only [wrap_i64', wrap_u8, wrap_u16, wrap_u32, wrap_u64, wrap_i32, List.length_cons, List.length_nil, List.length_append, List.length_map, tmodN, tdivN]); omega) | rfl | skip) (agree_cons rfl (by first | with_reducible rfl | (refine congrArg (AV.int _) ?_; (try simp only [wrap_i64', wrap_u8, wrap_u16, wrap_u32, wrap_u64, wrap_i32, List.length_cons, List.length_nil, List.length_append, List.length_map, tmodN, tdivN]); omega) | rfl | skip) (agree_cons rfl (by first | with_reducible rfl | (refine congrArg (AV.int _) ?_; (try simp only [wrap_i64', wrap_u8, wrap_u16, wrap_u32, wrap_u64, wrap_i32, List.length_cons, List.length_nil, List.length_append, List.length_map, tmodN, tdivN]); omega) | rfl | skip) (trivial))))))) (by first | (rw [hun]; done) | (rw [hun]; rfl) | (rw [hx]; done) | (rw [hx]; rfl))
              · skip
                refine Runs.reg [] [] rfl (by (try simp only [wrap_i64', wrap_u8, wrap_u16, wrap_u32, wrap_u64, wrap_i32, List.length_cons, List.length_nil, List.length_append, List.length_map, tmodN, tdivN]); and_intros <;> first | exact True.intro | omega | skip) ?_
                exact meet_J (⟨(groupF (l.getD i []) p d).1, true, 0⟩) _ _ (by exact hx) (by exact agree_cons rfl (by first | with_reducible rfl | (refine congrArg (AV.int _) ?_; (try simp only [wrap_i64', wrap_u8, wrap_u16, wrap_u32, wrap_u64, wrap_i32, List.length_cons, List.length_nil, List.length_append, List.length_map, tmodN, tdivN]); omega) | rfl | skip) (agree_cons rfl (by first | with_reducible rfl | (refine congrArg (AV.int _) ?_; (try simp only [wrap_i64', wrap_u8, wrap_u16, wrap_u32, wrap_u64, wrap_i32, List.length_cons, List.length_nil, List.length_append, List.length_map, tmodN, tdivN]); omega) | rfl | skip) (agree_cons rfl (by first | with_reducible rfl | (refine congrArg (AV.int _) ?_; (try simp only [wrap_i64', wrap_u8, wrap_u16, wrap_u32, wrap_u64, wrap_i32, List.length_cons, List.length_nil, List.length_append, List.length_map, tmodN, tdivN]); omega) | rfl | skip) (agree_cons rfl (by first | with_reducible rfl | (refine congrArg (AV.int _) ?_; (try simp only [wrap_i64', wrap_u8, wrap_u16, wrap_u32, wrap_u64, wrap_i32, List.length_cons, List.length_nil, List.length_append, List.length_map, tmodN, tdivN]); omega) | rfl | skip) (agree_cons rfl (by first | with_reducible rfl | (refine congrArg (AV.int _) ?_; (try simp only [wrap_i64', wrap_u8, wrap_u16, wrap_u32, wrap_u64, wrap_i32, List.length_cons, List.length_nil, List.length_append, List.length_map, tmodN, tdivN]); omega) | rfl | skip) (agree_cons rfl (by first | with_reducible rfl | (refine congrArg (AV.int _) ?_; (try simp only [wrap_i64', wrap_u8, wrap_u16, wrap_u32, wrap_u64, wrap_i32, List.length_cons, List.length_nil, List.length_append, List.length_map, tmodN, tdivN]); omega) | rfl | skip) (agree_cons rfl (by first | with_reducible rfl | (refine congrArg (AV.int _) ?_; (try simp only [wrap_i64', wrap_u8, wrap_u16, wrap_u32, wrap_u64, wrap_i32, List.length_cons, List.length_nil, List.length_append, List.length_map, tmodN, tdivN]); omega) | rfl | skip) (agree_cons rfl (by show AV.bool (decide ((if mx < 0 then 0 else mx) ≤ _)) = _; rw [show (if mx < 0 then 0 else mx) = max mx 0 by (split <;> omega)]) (trivial))))))))) (by rfl)
          · try simp only [decide_eq_true_eq, decide_eq_false_iff_not, notT, notF, beq_iff_eq, beq_eq_false_iff_ne, bne_iff_ne, bne_eq_false_iff_eq, tmodN, tdivN, Int.not_lt, Int.not_le] at g56
            have hx : uptoR p d l mar (i + 1) = (uptoR p d l mar i) ++ [⟨(groupF (l.getD i []) p d).1, true, 0⟩] := by (rw [hY0, stpR_g g25 g44, show sleL (groupF (l.getD i []) p d).1 mar = false from g51, show (uptoR p d l mar i) = [] from List.eq_nil_of_length_eq_zero (by omega)]; rfl)
            refine Runs.rest [] [0, 30] rfl (by (try simp only [wrap_i64', wrap_u8, wrap_u16, wrap_u32, wrap_u64, wrap_i32, List.length_cons, List.length_nil, List.length_append, List.length_map, tmodN, tdivN]); and_intros <;> first | exact True.intro | omega | skip) ?_
            refine Runs.condF rfl ?_
            refine Runs.skip ?_
            refine Runs.seq ?_
            refine Runs.seq ?_
            refine Runs.meet (σ := Ti) (fun x => uptoR p d l mar (i + 1) = (uptoR p d l mar i) ++ [x]) (fun x => [(0, .sl 1 l.length (strEl l) false), (1, .sl 1 l.length (boolEl (outL l mar)) false), (5, .ptr 0 0), (6, .ptr 1 0), (7, .ptr 2 0), (8, .int .i64 i), (9, .ptr 3 0), (91, .bool (decide (max mx 0 ≤ (((uptoR p d l mar i).length : Nat) : Int))))]) (fun x => [[.str p, .str d, .str mar, .str s4, .str s5, .str s6, .int .i64 mx, .int .i64 fr0], [.sl (Try.prog.cellsOf 64) 0 (fun _ => .bad) true, .bool false], [.sl 22 (uptoR p d l mar i).length (tiEl (uptoR p d l mar i)) true, .bool false], tiA x]) (fun x hx => ?_) (fun meet_J => ?_)
            · skip
              refine Runs.condS rfl (fun g91 => ?_) (fun g91 => ?_)
              · try simp only [decide_eq_true_eq, decide_eq_false_iff_not, notT, notF, beq_iff_eq, beq_eq_false_iff_ne, bne_iff_ne, bne_eq_false_iff_eq, tmodN, tdivN, Int.not_lt, Int.not_le] at g91
                obtain ⟨e1, e2⟩ := end2 p d l mar hso (show i < l.length by omega) hx hi2 (by omega)
                refine Runs.seq ?_
                refine Runs.reg [] [] rfl (by and_intros <;> first | exact True.intro | omega | exact Nat.le_of_ble_eq_true rfl) ?_
                refine Runs.seq ?_
                refine Runs.reg [] [] rfl (by and_intros <;> first | exact True.intro | omega | exact Nat.le_of_ble_eq_true rfl) ?_
                exact dropAll rfl rfl (Runs.retH Try.func50 rfl rfl (by rw [e1, e2]; rfl) (by rfl))
              · try simp only [decide_eq_true_eq, decide_eq_false_iff_not, notT, notF, beq_iff_eq, beq_eq_false_iff_ne, bne_iff_ne, bne_eq_false_iff_eq, tmodN, tdivN, Int.not_lt, Int.not_le] at g91
                refine Runs.skip ?_
                refine Runs.region ?_
                refine Runs.restTo 1 [] [] rfl (by and_intros <;> first | exact True.intro | omega | exact Nat.le_of_ble_eq_true rfl) ?_
                refine Runs.op rfl rfl rfl (OpSem.loadTake rfl rfl rfl rfl rfl rfl) ?_
                refine Runs.restTo 3 [] [] rfl (by and_intros <;> first | exact True.intro | omega | exact Nat.le_of_ble_eq_true rfl) ?_
                refine Runs.conv 101 (a := .sl 22 ((uptoR p d l mar i) ++ [x]).length (tiEl ((uptoR p d l mar i) ++ [x])) true) (by exact ti_snoc (uptoR p d l mar i) x) (.inr (by intro vs h; cases h)) (by intro vs h; cases h) ?_
                refine Runs.restTo 1 [] [] rfl (by and_intros <;> first | exact True.intro | omega | exact Nat.le_of_ble_eq_true rfl) ?_
                refine Runs.op rfl rfl rfl (OpSem.storeMove (s := 101) rfl rfl rfl rfl rfl rfl) ?_
                refine Runs.rest [] [] rfl (by and_intros <;> first | exact True.intro | omega | exact Nat.le_of_ble_eq_true rfl) ?_
                refine Runs.inBlock ?_
                refine Runs.reg [] [] rfl (by (try simp only [wrap_i64', wrap_u8, wrap_u16, wrap_u32, wrap_u64, wrap_i32, List.length_cons, List.length_nil, List.length_append, List.length_map, tmodN, tdivN]); and_intros <;> first | exact True.intro | omega | skip) ?_
                refine Runs.drop 3 (Nat.zero_le _) rfl ?_
                exact ih (i + 1) _ _ (by first | (rw [hun]; exact ⟨by omega, hi2⟩) | (rw [hx]; exact ⟨by omega, by simp; omega⟩)) (by omega) (by exact agree_cons rfl (by first | with_reducible rfl | (refine congrArg (AV.int _) ?_; (try simp only [wrap_i64', wrap_u8, wrap_u16, wrap_u32, wrap_u64, wrap_i32, List.length_cons, List.length_nil, List.length_append, List.length_map, tmodN, tdivN]); omega) | rfl | skip) (agree_cons rfl (by first | with_reducible rfl | (refine congrArg (AV.int _) ?_; (try simp only [wrap_i64', wrap_u8, wrap_u16, wrap_u32, wrap_u64, wrap_i32, List.length_cons, List.length_nil, List.length_append, List.length_map, tmodN, tdivN]); omega) | rfl | skip) (agree_cons rfl (by first | with_reducible rfl | (refine congrArg (AV.int _) ?_; (try simp only [wrap_i64', wrap_u8, wrap_u16, wrap_u32, wrap_u64, wrap_i32, List.length_cons, List.length_nil, List.length_append, List.length_map, tmodN, tdivN]); omega) | rfl | skip) (agree_cons rfl (by first | with_reducible rfl | (refine congrArg (AV.int _) ?_; (try simp only [wrap_i64', wrap_u8, wrap_u16, wrap_u32, wrap_u64, wrap_i32, List.length_cons, List.length_nil, List.length_append, List.length_map, tmodN, tdivN]); omega) | rfl | skip) (agree_cons rfl (by first | with_reducible rfl | (refine congrArg (AV.int _) ?_; (try simp only [wrap_i64', wrap_u8, wrap_u16, wrap_u32, wrap_u64, wrap_i32, List.length_cons, List.length_nil, List.length_append, List.length_map, tmodN, tdivN]); omega) | rfl | skip) (agree_cons rfl (by first | with_reducible rfl | (refine congrArg (AV.int _) ?_; (try simp only [wrap_i64', wrap_u8, wrap_u16, wrap_u32, wrap_u64, wrap_i32, List.length_cons, List.length_nil, List.length_append, List.length_map, tmodN, tdivN]); omega) | rfl | skip) (trivial))))))) (by first | (rw [hun]; done) | (rw [hun]; rfl) | (rw [hx]; done) | (rw [hx]; rfl))
            · skip
              refine Runs.reg [] [] rfl (by (try simp only [wrap_i64', wrap_u8, wrap_u16, wrap_u32, wrap_u64, wrap_i32, List.length_cons, List.length_nil, List.length_append, List.length_map, tmodN, tdivN]); and_intros <;> first | exact True.intro | omega | skip) ?_
              exact meet_J (⟨(groupF (l.getD i []) p d).1, true, 0⟩) _ _ (by exact hx) (by exact agree_cons rfl (by first | with_reducible rfl | (refine congrArg (AV.int _) ?_; (try simp only [wrap_i64', wrap_u8, wrap_u16, wrap_u32, wrap_u64, wrap_i32, List.length_cons, List.length_nil, List.length_append, List.length_map, tmodN, tdivN]); omega) | rfl | skip) (agree_cons rfl (by first | with_reducible rfl | (refine congrArg (AV.int _) ?_; (try simp only [wrap_i64', wrap_u8, wrap_u16, wrap_u32, wrap_u64, wrap_i32, List.length_cons, List.length_nil, List.length_append, List.length_map, tmodN, tdivN]); omega) | rfl | skip) (agree_cons rfl (by first | with_reducible rfl | (refine congrArg (AV.int _) ?_; (try simp only [wrap_i64', wrap_u8, wrap_u16, wrap_u32, wrap_u64, wrap_i32, List.length_cons, List.length_nil, List.length_append, List.length_map, tmodN, tdivN]); omega) | rfl | skip) (agree_cons rfl (by first | with_reducible rfl | (refine congrArg (AV.int _) ?_; (try simp only [wrap_i64', wrap_u8, wrap_u16, wrap_u32, wrap_u64, wrap_i32, List.length_cons, List.length_nil, List.length_append, List.length_map, tmodN, tdivN]); omega) | rfl | skip) (agree_cons rfl (by first | with_reducible rfl | (refine congrArg (AV.int _) ?_; (try simp only [wrap_i64', wrap_u8, wrap_u16, wrap_u32, wrap_u64, wrap_i32, List.length_cons, List.length_nil, List.length_append, List.length_map, tmodN, tdivN]); omega) | rfl | skip) (agree_cons rfl (by first | with_reducible rfl | (refine congrArg (AV.int _) ?_; (try simp only [wrap_i64', wrap_u8, wrap_u16, wrap_u32, wrap_u64, wrap_i32, List.length_cons, List.length_nil, List.length_append, List.length_map, tmodN, tdivN]); omega) | rfl | skip) (agree_cons rfl (by first | with_reducible rfl | (refine congrArg (AV.int _) ?_; (try simp only [wrap_i64', wrap_u8, wrap_u16, wrap_u32, wrap_u64, wrap_i32, List.length_cons, List.length_nil, List.length_append, List.length_map, tmodN, tdivN]); omega) | rfl | skip) (agree_cons rfl (by show AV.bool (decide ((if mx < 0 then 0 else mx) ≤ _)) = _; rw [show (if mx < 0 then 0 else mx) = max mx 0 by (split <;> omega)]) (trivial))))))))) (by rfl)
      · try simp only [decide_eq_true_eq, decide_eq_false_iff_not, notT, notF, beq_iff_eq, beq_eq_false_iff_ne, bne_iff_ne, bne_eq_false_iff_eq, tmodN, tdivN, Int.not_lt, Int.not_le] at g44
        refine Runs.seq ?_
        refine Runs.reg [] [0, 1] rfl (by (try simp only [wrap_i64', wrap_u8, wrap_u16, wrap_u32, wrap_u64, wrap_i32, List.length_cons, List.length_nil, List.length_append, List.length_map, tmodN, tdivN]); and_intros <;> first | exact True.intro | omega | skip) ?_
        refine Runs.condS rfl (fun g84 => ?_) (fun g84 => ?_)
        · try simp only [decide_eq_true_eq, decide_eq_false_iff_not, notT, notF, beq_iff_eq, beq_eq_false_iff_ne, bne_iff_ne, bne_eq_false_iff_eq, tmodN, tdivN, Int.not_lt, Int.not_le] at g84
          have hun : uptoR p d l mar (i + 1) = (uptoR p d l mar i) := by (rw [hY0, stpR_n g25 g44, if_pos (show sleL (l.getD i []) mar = true from (out_at (show i < l.length by omega)).symm.trans g84)])
          refine Runs.exit rfl ?_
          refine Runs.reg [] [] rfl (by (try simp only [wrap_i64', wrap_u8, wrap_u16, wrap_u32, wrap_u64, wrap_i32, List.length_cons, List.length_nil, List.length_append, List.length_map, tmodN, tdivN]); and_intros <;> first | exact True.intro | omega | skip) ?_
          refine Runs.drop 3 (Nat.zero_le _) rfl ?_
          exact ih (i + 1) _ _ (by first | (rw [hun]; exact ⟨by omega, hi2⟩) | (rw [hx]; exact ⟨by omega, by simp; omega⟩)) (by omega) (by exact agree_cons rfl (by first | with_reducible rfl | (refine congrArg (AV.int _) ?_; (try simp only [wrap_i64', wrap_u8, wrap_u16, wrap_u32, wrap_u64, wrap_i32, List.length_cons, List.length_nil, List.length_append, List.length_map, tmodN, tdivN]); omega) | rfl | skip) (agree_cons rfl (by first | with_reducible rfl | (refine congrArg (AV.int _) ?_; (try simp only [wrap_i64', wrap_u8, wrap_u16, wrap_u32, wrap_u64, wrap_i32, List.length_cons, List.length_nil, List.length_append, List.length_map, tmodN, tdivN]); omega) | rfl | skip) (agree_cons rfl (by first | with_reducible rfl | (refine congrArg (AV.int _) ?_; (try simp only [wrap_i64', wrap_u8, wrap_u16, wrap_u32, wrap_u64, wrap_i32, List.length_cons, List.length_nil, List.length_append, List.length_map, tmodN, tdivN]); omega) | rfl | skip) (agree_cons rfl (by first | with_reducible rfl | (refine congrArg (AV.int _) ?_; (try simp only [wrap_i64', wrap_u8, wrap_u16, wrap_u32, wrap_u64, wrap_i32, List.length_cons, List.length_nil, List.length_append, List.length_map, tmodN, tdivN]); omega) | rfl | skip) (agree_cons rfl (by first | with_reducible rfl | (refine congrArg (AV.int _) ?_; (try simp only [wrap_i64', wrap_u8, wrap_u16, wrap_u32, wrap_u64, wrap_i32, List.length_cons, List.length_nil, List.length_append, List.length_map, tmodN, tdivN]); omega) | rfl | skip) (agree_cons rfl (by first | with_reducible rfl | (refine congrArg (AV.int _) ?_; (try simp only [wrap_i64', wrap_u8, wrap_u16, wrap_u32, wrap_u64, wrap_i32, List.length_cons, List.length_nil, List.length_append, List.length_map, tmodN, tdivN]); omega) | rfl | skip) (trivial))))))) (by first | (rw [hun]; done) | (rw [hun]; rfl) | (rw [hx]; done) | (rw [hx]; rfl))
        · try simp only [decide_eq_true_eq, decide_eq_false_iff_not, notT, notF, beq_iff_eq, beq_eq_false_iff_ne, bne_iff_ne, bne_eq_false_iff_eq, tmodN, tdivN, Int.not_lt, Int.not_le] at g84
          have hx : uptoR p d l mar (i + 1) = (uptoR p d l mar i) ++ [⟨l.getD i [], false, i⟩] := by (rw [hY0, stpR_n g25 g44, if_neg (by rw [(out_at (show i < l.length by omega)).symm.trans g84]; exact Bool.false_ne_true)])
          refine Runs.skip ?_
          refine Runs.seq ?_
          refine Runs.seq ?_
          refine Runs.meet (σ := Ti) (fun x => uptoR p d l mar (i + 1) = (uptoR p d l mar i) ++ [x]) (fun x => [(0, .sl 1 l.length (strEl l) false), (1, .sl 1 l.length (boolEl (outL l mar)) false), (5, .ptr 0 0), (6, .ptr 1 0), (7, .ptr 2 0), (8, .int .i64 i), (9, .ptr 3 0), (91, .bool (decide (max mx 0 ≤ (((uptoR p d l mar i).length : Nat) : Int))))]) (fun x => [[.str p, .str d, .str mar, .str s4, .str s5, .str s6, .int .i64 mx, .int .i64 fr0], [.sl (Try.prog.cellsOf 64) 0 (fun _ => .bad) true, .bool false], [.sl 22 (uptoR p d l mar i).length (tiEl (uptoR p d l mar i)) true, .bool false], tiA x]) (fun x hx => ?_) (fun meet_J => ?_)
          · skip
            refine Runs.condS rfl (fun g91 => ?_) (fun g91 => ?_)
            · try simp only [decide_eq_true_eq, decide_eq_false_iff_not, notT, notF, beq_iff_eq, beq_eq_false_iff_ne, bne_iff_ne, bne_eq_false_iff_eq, tmodN, tdivN, Int.not_lt, Int.not_le] at g91
              obtain ⟨e1, e2⟩ := end2 p d l mar hso (show i < l.length by omega) hx hi2 (by omega)
              refine Runs.seq ?_
              refine Runs.reg [] [] rfl (by and_intros <;> first | exact True.intro | omega | exact Nat.le_of_ble_eq_true rfl) ?_
              refine Runs.seq ?_
              refine Runs.reg [] [] rfl (by and_intros <;> first | exact True.intro | omega | exact Nat.le_of_ble_eq_true rfl) ?_
              exact dropAll rfl rfl (Runs.retH Try.func50 rfl rfl (by rw [e1, e2]; rfl) (by rfl))
            · try simp only [decide_eq_true_eq, decide_eq_false_iff_not, notT, notF, beq_iff_eq, beq_eq_false_iff_ne, bne_iff_ne, bne_eq_false_iff_eq, tmodN, tdivN, Int.not_lt, Int.not_le] at g91
              refine Runs.skip ?_
              refine Runs.region ?_
              refine Runs.restTo 1 [] [] rfl (by and_intros <;> first | exact True.intro | omega | exact Nat.le_of_ble_eq_true rfl) ?_
              refine Runs.op rfl rfl rfl (OpSem.loadTake rfl rfl rfl rfl rfl rfl) ?_
              refine Runs.restTo 3 [] [] rfl (by and_intros <;> first | exact True.intro | omega | exact Nat.le_of_ble_eq_true rfl) ?_
              refine Runs.conv 101 (a := .sl 22 ((uptoR p d l mar i) ++ [x]).length (tiEl ((uptoR p d l mar i) ++ [x])) true) (by exact ti_snoc (uptoR p d l mar i) x) (.inr (by intro vs h; cases h)) (by intro vs h; cases h) ?_
              refine Runs.restTo 1 [] [] rfl (by and_intros <;> first | exact True.intro | omega | exact Nat.le_of_ble_eq_true rfl) ?_
              refine Runs.op rfl rfl rfl (OpSem.storeMove (s := 101) rfl rfl rfl rfl rfl rfl) ?_
              refine Runs.rest [] [] rfl (by and_intros <;> first | exact True.intro | omega | exact Nat.le_of_ble_eq_true rfl) ?_
              refine Runs.inBlock ?_
              refine Runs.reg [] [] rfl (by (try simp only [wrap_i64', wrap_u8, wrap_u16, wrap_u32, wrap_u64, wrap_i32, List.length_cons, List.length_nil, List.length_append, List.length_map, tmodN, tdivN]); and_intros <;> first | exact True.intro | omega | skip) ?_
              refine Runs.drop 3 (Nat.zero_le _) rfl ?_
              exact ih (i + 1) _ _ (by first | (rw [hun]; exact ⟨by omega, hi2⟩) | (rw [hx]; exact ⟨by omega, by simp; omega⟩)) (by omega) (by exact agree_cons rfl (by first | with_reducible rfl | (refine congrArg (AV.int _) ?_; (try simp only [wrap_i64', wrap_u8, wrap_u16, wrap_u32, wrap_u64, wrap_i32, List.length_cons, List.length_nil, List.length_append, List.length_map, tmodN, tdivN]); omega) | rfl | skip) (agree_cons rfl (by first | with_reducible rfl | (refine congrArg (AV.int _) ?_; (try simp only [wrap_i64', wrap_u8, wrap_u16, wrap_u32, wrap_u64, wrap_i32, List.length_cons, List.length_nil, List.length_append, List.length_map, tmodN, tdivN]); omega) | rfl | skip) (agree_cons rfl (by first | with_reducible rfl | (refine congrArg (AV.int _) ?_; (try simp only [wrap_i64', wrap_u8, wrap_u16, wrap_u32, wrap_u64, wrap_i32, List.length_cons, List.length_nil, List.length_append, List.length_map, tmodN, tdivN]); omega) | rfl | skip) (agree_cons rfl (by first | with_reducible rfl | (refine congrArg (AV.int _) ?_; (try simp only [wrap_i64', wrap_u8, wrap_u16, wrap_u32, wrap_u64, wrap_i32, List.length_cons, List.length_nil, List.length_append, List.length_map, tmodN, tdivN]); omega) | rfl | skip) (agree_cons rfl (by first | with_reducible rfl | (refine congrArg (AV.int _) ?_; (try simp only [wrap_i64', wrap_u8, wrap_u16, wrap_u32, wrap_u64, wrap_i32, List.length_cons, List.length_nil, List.length_append, List.length_map, tmodN, tdivN]); omega) | rfl | skip) (agree_cons rfl (by first | with_reducible rfl | (refine congrArg (AV.int _) ?_; (try simp only [wrap_i64', wrap_u8, wrap_u16, wrap_u32, wrap_u64, wrap_i32, List.length_cons, List.length_nil, List.length_append, List.length_map, tmodN, tdivN]); omega) | rfl | skip) (trivial))))))) (by first | (rw [hun]; done) | (rw [hun]; rfl) | (rw [hx]; done) | (rw [hx]; rfl))
          · skip
            refine Runs.reg [] [] rfl (by (try simp only [wrap_i64', wrap_u8, wrap_u16, wrap_u32, wrap_u64, wrap_i32, List.length_cons, List.length_nil, List.length_append, List.length_map, tmodN, tdivN]); and_intros <;> first | exact True.intro | omega | skip) ?_
            exact meet_J (⟨l.getD i [], false, i⟩) _ _ (by exact hx) (by exact agree_cons rfl (by first | with_reducible rfl | (refine congrArg (AV.int _) ?_; (try simp only [wrap_i64', wrap_u8, wrap_u16, wrap_u32, wrap_u64, wrap_i32, List.length_cons, List.length_nil, List.length_append, List.length_map, tmodN, tdivN]); omega) | rfl | skip) (agree_cons rfl (by first | with_reducible rfl | (refine congrArg (AV.int _) ?_; (try simp only [wrap_i64', wrap_u8, wrap_u16, wrap_u32, wrap_u64, wrap_i32, List.length_cons, List.length_nil, List.length_append, List.length_map, tmodN, tdivN]); omega) | rfl | skip) (agree_cons rfl (by first | with_reducible rfl | (refine congrArg (AV.int _) ?_; (try simp only [wrap_i64', wrap_u8, wrap_u16, wrap_u32, wrap_u64, wrap_i32, List.length_cons, List.length_nil, List.length_append, List.length_map, tmodN, tdivN]); omega) | rfl | skip) (agree_cons rfl (by first | with_reducible rfl | (refine congrArg (AV.int _) ?_; (try simp only [wrap_i64', wrap_u8, wrap_u16, wrap_u32, wrap_u64, wrap_i32, List.length_cons, List.length_nil, List.length_append, List.length_map, tmodN, tdivN]); omega) | rfl | skip) (agree_cons rfl (by first | with_reducible rfl | (refine congrArg (AV.int _) ?_; (try simp only [wrap_i64', wrap_u8, wrap_u16, wrap_u32, wrap_u64, wrap_i32, List.length_cons, List.length_nil, List.length_append, List.length_map, tmodN, tdivN]); omega) | rfl | skip) (agree_cons rfl (by first | with_reducible rfl | (refine congrArg (AV.int _) ?_; (try simp only [wrap_i64', wrap_u8, wrap_u16, wrap_u32, wrap_u64, wrap_i32, List.length_cons, List.length_nil, List.length_append, List.length_map, tmodN, tdivN]); omega) | rfl | skip) (agree_cons rfl (by first | with_reducible rfl | (refine congrArg (AV.int _) ?_; (try simp only [wrap_i64', wrap_u8, wrap_u16, wrap_u32, wrap_u64, wrap_i32, List.length_cons, List.length_nil, List.length_append, List.length_map, tmodN, tdivN]); omega) | rfl | skip) (agree_cons rfl (by show AV.bool (decide ((if mx < 0 then 0 else mx) ≤ _)) = _; rw [show (if mx < 0 then 0 else mx) = max mx 0 by (split <;> omega)]) (trivial))))))))) (by rfl)
  · try simp only [decide_eq_true_eq, decide_eq_false_iff_not, notT, notF, beq_iff_eq, beq_eq_false_iff_ne, bne_iff_ne, bne_eq_false_iff_eq, tmodN, tdivN, Int.not_lt, Int.not_le] at g15
    refine Runs.exit rfl ?_
    refine Runs.seq ?_
    refine Runs.reg [] [] rfl (by and_intros <;> first | exact True.intro | omega | exact Nat.le_of_ble_eq_true rfl) ?_
    obtain rfl : i = l.length := by omega
    obtain ⟨e1, e2⟩ := end1 p d l mar hso hi2
    exact dropAll rfl rfl (Runs.retH Try.func50 rfl rfl (by rw [e1, e2]; rfl) (by rfl))

end Go.Proofs.LP
