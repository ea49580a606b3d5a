/- The abstract machine: an operation of a region. -/
import Derived.Test.YtnohmijdpmelpaaGreatAm2
set_option linter.unusedSectionVars false
set_option linter.unusedVariables false
namespace Go.Am
open Go
variable [Tab]

structure InvV (G : Gh) (w : World) (ρ : List Nat) (n : Nat) (fr : Fr) (H : Heap) (tmps : Array Value) (v : AV) (v' : Value) : Prop where
  inv : Inv G w ρ n fr H tmps
  vr : VR G w ρ v v'
  sp : SpV G .res v v'

theorem Sp.map {G G' : Gh} {t t' : Own} {a : AV} {v : Value} (hm : ∀ b o, G b o = t → G' b o = t') (h : Sp G t a v) : Sp G' t' a v := by
  unfold Sp at *
  split <;> simp_all
theorem SpV.map {G G' : Gh} {t t' : Nat → Own} {a : AV} {v : Value} (hm : ∀ c b o, G b o = t c → G' b o = t' c) (h : SpV G t a v) : SpV G' t' a v := by
  unfold SpV at *
  split
  · rename_i vs ws
    exact fun c x y h1 h2 => (h c x y h1 h2).map (hm c)
  · rename_i hx
    split at h
    · exact absurd rfl (hx _ _ rfl)
    · exact h.map (hm 0)
/-- the pending value goes into a slot (or nowhere) -/
def putG (G : Gh) (d : Option Nat) : Gh := fun b o => match G b o with
  | .res c => (match d with | some d => .slot d c | none => .free)
  | .slot i c => if some i = d then .free else .slot i c
  | x => x
def putF (fr : Fr) (d : Option Nat) (v : AV) : Fr := match d with | some d => fr.set d v | none => fr
theorem putG_frz {G d b o} : putG G d b o = .frz ↔ G b o = .frz := by
  unfold putG; split <;> (try split) <;> simp_all
theorem putG_ctx {G d b o} : putG G d b o = .ctx ↔ G b o = .ctx := by
  unfold putG; split <;> (try split) <;> simp_all
theorem putG_keeps (G : Gh) (w : World) (d) : Keeps G w (putG G d) w := fun b o h => ⟨putG_frz.2 h, rfl⟩
theorem putG_trans (G : Gh) (w : World) (d) : Trans G w (putG G d) w :=
  ⟨rfl, rfl, rfl, Nat.le_refl _, fun _ _ h => putG_frz.2 h, fun _ _ h => putG_ctx.2 h, fun _ _ _ => ⟨rfl, rfl⟩, fun _ _ _ => rfl, fun _ _ e1 e2 => absurd (putG_frz.1 e2) e1⟩
theorem putG_mine {G d b o} (h : (putG G d b o).mine = true) : (G b o).mine = true := by
  unfold putG at h; split at h <;> simp_all [Own.mine]
theorem WI.put {G w} (h : WI G w) (d) : WI (putG G d) w :=
  ⟨fun b o e => h.own b o (putG_mine e), fun b o e => by have := h.old b o e; unfold putG; rw [this],
    fun b o v e => h.one b o v (e.imp putG_frz.1 putG_mine), h.tab.trans (putG_trans G w d)⟩
theorem BR.put {G w ρ H} (h : BR G w ρ H) (d) : BR (putG G d) w ρ H :=
  ⟨h.len, fun id b blk j c h1 h2 h3 => by
    obtain ⟨e, v, hc, hv, hs⟩ := h.cell id b blk j c h1 h2 h3
    refine ⟨by unfold putG; rw [e], v, hc, hv.keep (putG_keeps _ _ _), hs.map fun b o e => by unfold putG; rw [e]⟩⟩
theorem FR.put {G w ρ fr tmps n} (h : FR G w ρ fr tmps) (hn : tmps.size = n) {v v'} (hv : VR G w ρ v v') (hs : SpV G .res v v') (d : Option Nat) (hd : ∀ i, d = some i → i < n) :
    FR (putG G d) w ρ (putF fr d v) (match d with | some d => tmps.setIfInBounds d v' | none => tmps) := by
  intro i
  have hi := h i
  cases d with
  | none =>
    exact ⟨hi.1.keep (putG_keeps _ _ _), hi.2.map fun c b o e => by unfold putG; rw [e]; simp⟩
  | some d =>
    have hdn := hd d rfl
    simp only [putF, Fr.set]
    by_cases hid : i = d
    · subst hid
      rw [show Nat.beq i i = true from Nat.beq_refl i]
      have e : (tmps.setIfInBounds i v').getD i undef = v' := by simp [Array.getD_eq_getD_getElem?, hn, hdn]
      simp only [cond_true, e]
      exact ⟨hv.keep (putG_keeps _ _ _), hs.map fun c b o e => by unfold putG; rw [e]⟩
    · have hb : Nat.beq i d = false := by
        cases hq : Nat.beq i d with
        | true => exact absurd (Nat.eq_of_beq_eq_true hq) hid
        | false => rfl
      rw [hb]
      have e : (tmps.setIfInBounds d v').getD i undef = tmps.getD i undef := by
        simp only [Array.getD_eq_getD_getElem?]; rw [Array.getElem?_setIfInBounds_ne (fun h => hid h.symm)]
      simp only [cond_false, e]
      exact ⟨hi.1.keep (putG_keeps _ _ _), hi.2.map fun c b o e => by unfold putG; rw [e]; simp [hid]⟩
theorem InvV.put {G w ρ n fr H v v'} {a : Act} (h : InvV G w ρ n fr H a.tmps v v') (d : Option Nat) (hd : ∀ i, d = some i → i < n) :
    Inv (putG G d) w ρ n (putF fr d v) H (a.put d v').tmps := by
  have hf := h.inv.fr.put h.inv.size h.vr h.sp d hd
  refine ⟨?_, ?_, h.inv.br.put d, h.inv.wi.put d⟩
  · cases d <;> simp [Act.put, h.inv.size]
  · cases d <;> exact hf

def OpSem (P : Program) (o : Oper) (fr : Fr) (H : Heap) (v : AV) (fr1 : Fr) (H1 : Heap) : Prop :=
  ∀ (b : Frame) (a : Act) (w : World) (G : Gh) (ρ : List Nat) (n : Nat) (ops : Array Oper) (i : Nat) (rest : List Nat) (k : List Item) (cs : List Frame),
    ops[i]? = some o → Region.wanted o (yielded ops a.tmps) = true → Inv G w ρ n fr H a.tmps →
    ∃ v' w' G' ρ2, Steps P (lone (b.at a (.inRegion ops (i :: rest) :: k)) cs w) (lone (b.at (a.put o.dst v') (.inRegion ops rest :: k)) cs w') ∧
      Trans G w G' w' ∧ InvV G' w' (ρ ++ ρ2) n fr1 H1 a.tmps v v'
/-- is the operation run? -/
def gOK (ops : Array Oper) (fr : Fr) (o : Oper) : Option Bool :=
  match o.guard with
  | none => some true
  | some (j, want) => match (ops[j]?).bind (·.dst) with
    | some s => match fr s with
      | .bool true => some want
      | .bool false => some (!want)
      | .tup _ => some false
      | _ => none
    | none => none
theorem gOK_wanted {ops : Array Oper} {fr : Fr} {o : Oper} {r : Bool} {G w ρ tmps} (h : gOK ops fr o = some r) (hf : FR G w ρ fr tmps) : Region.wanted o (yielded ops tmps) = r := by
  unfold gOK at h
  unfold Region.wanted
  split at h
  · rename_i e; rw [e]; simpa using h
  · rename_i j want e
    rw [e]
    simp only
    split at h
    · rename_i s hs
      have hv := (hf s).1
      have hy : ∀ g, fr s = .bool g → yielded ops tmps j = some g := by
        intro g hg
        rw [hg] at hv
        generalize hx : tmps.getD s undef = x at hv
        cases hv
        have : tmps[s]? = some (.bool g) := by
          rw [Array.getD_eq_getD_getElem?] at hx
          cases hq : tmps[s]? with
          | none => rw [hq] at hx; simp [undef] at hx
          | some y => rw [hq] at hx; simp at hx; rw [hx]
        simp [yielded, hs, this]
      split at h
      · rename_i e2; rw [hy _ e2]; cases want <;> simp_all
      · rename_i e2; rw [hy _ e2]; cases want <;> simp_all
      · rename_i cs e2
        rw [e2] at hv
        generalize hx : tmps.getD s undef = x at hv
        cases hv
        have : yielded ops tmps j = none := by
          rw [Array.getD_eq_getD_getElem?] at hx
          cases hq : tmps[s]? with
          | none => simp [yielded, hs, hq]
          | some y => rw [hq] at hx; simp at hx; subst hx; simp [yielded, hs, hq]
        rw [this]
        cases want <;> simp_all
      · simp at h
    · simp at h

variable {P : Program} {f : FuncId} {n k0 : Nat} {S : List Item} {fr fr1 : Fr} {H H1 : Heap} {res : AV} {H' : Heap} {ops : Array Oper} {o : Oper} {i : Nat} {rest : List Nat} {v : AV}
theorem Runs.op (ho : ops[i]? = some o) (hg : gOK ops fr o = some true) (hd : (match o.dst with | some d => Nat.blt d n | none => true) = true) (hs : OpSem P o fr H v fr1 H1)
    (hk : Runs P f n k0 (.inRegion ops rest :: S) (putF fr1 o.dst v) H1 res H') : Runs P f n k0 (.inRegion ops (i :: rest) :: S) fr H res H' := by
  intro b a w G ρ h1 h2 h3 hkk h4 cs
  obtain ⟨v', w', G', ρ2, hst, htr, hiv⟩ := hs b a w G ρ n ops i rest S cs ho (gOK_wanted hg h4.fr) h4
  have hp := hiv.put o.dst (fun d e => by rw [e] at hd; simp [Nat.blt] at hd; omega)
  obtain ⟨v2, w2, G2, ρ3, frm, hst2, e1, e2, ht, hw, hρ, hr⟩ := hk b (a.put o.dst v') w' _ _ h1 h2 (by cases o.dst <;> exact h3) (by simp; omega) hp cs
  exact ⟨v2, w2, G2, ρ3, frm, hst.trans hst2, e1, e2, (htr.trans (putG_trans ..)).trans ht, hw, by rw [hρ, List.take_append_of_le_length hkk], hr⟩
theorem Runs.opSkip (ho : ops[i]? = some o) (hg : gOK ops fr o = some false) (hd : (match o.dst with | some d => Nat.blt d n | none => true) = true)
    (hk : Runs P f n k0 (.inRegion ops rest :: S) (putF fr o.dst (.tup [])) H res H') : Runs P f n k0 (.inRegion ops (i :: rest) :: S) fr H res H' := by
  intro b a w G ρ h1 h2 h3 hkk h4 cs
  have hw := gOK_wanted hg h4.fr
  have hst := step_op_skip (P := P) (b := b) (a := a) (k := S) (cs := cs) (w := w) (ops := ops) (i := i) (rest := rest) (by simp [ho, hw])
  simp only [ho, Option.bind_some] at hst
  have hiv : InvV G w ρ n fr H a.tmps (.tup []) undef := ⟨h4, .tup _ _ [] rfl (by simp), by simp [SpV, undef]⟩
  have hp := hiv.put o.dst (fun d e => by rw [e] at hd; simp [Nat.blt] at hd; omega)
  obtain ⟨v2, w2, G2, ρ3, frm, hst2, e1, e2, ht, hr⟩ := hk b (a.put o.dst undef) w _ _ h1 h2 (by cases o.dst <;> exact h3) hkk hp cs
  exact ⟨v2, w2, G2, ρ3, frm, .head hst hst2, e1, e2, (putG_trans ..).trans ht, hr⟩
/-- a slot's bool, split -/
theorem Runs.split (s : Nat) {g : Bool} (hs : fr s = .bool g) (h : gd g (Runs P f n k0 S (fr.set s (.bool true)) H res H') (Runs P f n k0 S (fr.set s (.bool false)) H res H')) : Runs P f n k0 S fr H res H' := by
  have e : fr.set s (.bool g) = fr := by
    funext i
    unfold Fr.set
    cases hq : Nat.beq i s with
    | true => rw [Nat.eq_of_beq_eq_true hq]; exact hs.symm
    | false => rfl
  rw [← e]
  cases g <;> exact h
theorem step_value {b : Frame} {a : Act} {w w' : World} {k : List Item} {cs : List Frame} {v : Value} (ho : ops[i]? = some o) (hw : Region.wanted o (yielded ops a.tmps) = true)
    (hr : (execOp a.eval o).run P w = .ok (.value v) w') : step P (lone (b.at a (.inRegion ops (i :: rest) :: k)) cs w) = .next (lone (b.at (a.put o.dst v) (.inRegion ops rest :: k)) cs w') := by
  have hg := stepG_op (P := P) (b := b) (k := k) (cs := cs) (w := w) (rest := rest) ho hw
  have hfin : ∀ v, (b.at a (.inRegion ops (i :: rest) :: k)).finish v = b.at (a.put o.dst v) (.inRegion ops rest :: k) := by
    intro v; rw [Frame.finish_at, ho]; rfl
  refine step_lone_go ?_
  rw [hg, ← hfin]; simp [stepG.apply, hr]
theorem step_skipV {b : Frame} {a : Act} {w w' : World} {k : List Item} {cs : List Frame} (ho : ops[i]? = some o) (hw : Region.wanted o (yielded ops a.tmps) = true)
    (hr : (execOp a.eval o).run P w = .ok .skip w') : step P (lone (b.at a (.inRegion ops (i :: rest) :: k)) cs w) = .next (lone (b.at (a.put o.dst undef) (.inRegion ops rest :: k)) cs w') := by
  have hg := stepG_op (P := P) (b := b) (k := k) (cs := cs) (w := w) (rest := rest) ho hw
  have hfin : ∀ v, (b.at a (.inRegion ops (i :: rest) :: k)).finish v = b.at (a.put o.dst v) (.inRegion ops rest :: k) := by
    intro v; rw [Frame.finish_at, ho]; rfl
  refine step_lone_go ?_
  rw [hg, ← hfin]; simp [stepG.apply, hr]

/-- owns nothing -/
def nr1 : AV → Bool
  | .bs _ o => !o
  | .sl _ _ _ o => !o
  | _ => true
def nr : AV → Bool
  | .tup vs => vs.all nr1
  | v => nr1 v
theorem Sp_nr1 {G t a v} (h : nr1 a = true) : Sp G t a v := by
  unfold Sp; split <;> simp_all [nr1]
theorem SpV_nr {G t a v} (h : nr a = true) : SpV G t a v := by
  unfold SpV
  split
  · exact fun c x y h1 h2 => Sp_nr1 (by simp [nr] at h; exact h x (List.mem_of_getElem? h1))
  · refine Sp_nr1 ?_
    unfold nr at h
    split at h
    · simp [nr1]
    · exact h
theorem OpSem.same (h : ∀ (a : Act) w G ρ n, Inv G w ρ n fr H a.tmps → ∃ v', (execOp a.eval o).run P w = .ok (.value v') w ∧ VR G w ρ v v') (hn : ∀ G t x, SpV G t v x) : OpSem P o fr H v fr H := by
  intro b a w G ρ n ops i rest k cs ho hw hi
  obtain ⟨v', hr, hv⟩ := h a w G ρ n hi
  exact ⟨v', w, G, [], .one (step_value ho hw hr), Trans.refl _ _, by rw [List.append_nil]; exact ⟨hi, hv, hn ..⟩⟩
end Go.Am
