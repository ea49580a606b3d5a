/- The abstract machine: returns; what is forgotten, frozen, told otherwise. The abstract machine: one operation and a whole region, reckoned ('evN', 'evR'), and that they are right. -/
import Derived.Test.YtdigohaeakclfaaGreatDoorMa04
set_option linter.unusedSectionVars false
set_option linter.unusedVariables false
set_option linter.unusedSimpArgs false
namespace Go.Am
open Go
variable [Tab]
variable {P : Program} {G G' : Gh} {w w' : World} {ρ : List Nat} {n k0 : Nat} {fr : Fr} {H : Heap} {tmps : Array Value} {f : FuncId} {S : List Item} {res : AV} {H' : Heap}

/-! ### 1. Returns -/
def resE1 (P : Program) (fr : Fr) (H : Heap) : ResultVar → Option AV
  | .tmp t => some (un1 (fr t))
  | .cell a t => loadE P H t (fr a)
def resList (P : Program) (fr : Fr) (H : Heap) : List ResultVar → Option (List AV)
  | [] => some []
  | r :: rs => match resE1 P fr H r, resList P fr H rs with
    | some x, some l => some (x :: l)
    | _, _ => none
theorem res1_run {a : Act} {r : ResultVar} {x : AV} (h : resE1 P fr H r = some x) (hf : FR G w ρ fr a.tmps) (hb : BR G w ρ H) :
    ∃ v, (match r with | .tmp t => pure (a.tmps.getD t undef) | .cell p t => do loadVar t (← asAddr (a.tmps.getD p undef)) : Sem Value).run P w = .ok v w ∧ VR G w ρ x v := by
  cases r with
  | tmp t => simp only [resE1, Option.some.injEq] at h; subst h; exact ⟨_, rfl, (hf t).1.un1⟩
  | cell p t =>
    simp only [resE1] at h
    obtain ⟨v, h1, h2⟩ := load_sound (P := P) h hb (hf p).1
    refine ⟨v, ?_, h2⟩
    have hv := (hf p).1
    unfold loadE at h
    split at h
    · rename_i e; rw [e] at hv
      obtain ⟨b, o, vs, e2, _⟩ := hv.cptr_inv
      show (do loadVar t (← asAddr (a.tmps.getD p undef)) : Sem Value).run P w = _
      rw [e2] at h1 ⊢
      simpa [Instr.loadAt, Instr.sureAddr, asAddr] using h1
    · rename_i e; rw [e] at hv
      obtain ⟨b, _, e2⟩ := hv.ptr_inv
      show (do loadVar t (← asAddr (a.tmps.getD p undef)) : Sem Value).run P w = _
      rw [e2] at h1 ⊢
      simpa [Instr.loadAt, Instr.sureAddr, asAddr] using h1
    · simp at h
theorem resList_run {a : Act} (hf : FR G w ρ fr a.tmps) (hb : BR G w ρ H) : ∀ {rs : List ResultVar} {xs : List AV}, resList P fr H rs = some xs →
    ∃ vs : List Value, (rs.mapM (m := Sem) fun r => match r with | .tmp t => pure (a.tmps.getD t undef) | .cell p t => do loadVar t (← asAddr (a.tmps.getD p undef))).run P w = .ok vs w ∧ VRs G w ρ xs vs
  | [], xs, h => by simp [resList] at h; subst h; exact ⟨[], rfl, rfl, fun q c v h => by simp at h⟩
  | r :: rs, xs, h => by
    unfold resList at h
    split at h
    · rename_i x l h1 h2
      simp only [Option.some.injEq] at h; subst h
      obtain ⟨v, k1, k2⟩ := res1_run h1 hf hb
      obtain ⟨vs, k3, k4⟩ := resList_run hf hb h2
      refine ⟨v :: vs, ?_, by simp [k4.1], fun q c v' e1 e2 => ?_⟩
      · rw [List.mapM_cons, Sem.run_bind, k1, Result.andThen_ok, Sem.run_bind, k3]; rfl
      · cases q with
        | zero => simp at e1 e2; subst e1; subst e2; exact k2
        | succ q => exact k4.2 q c v' (by simpa using e1) (by simpa using e2)
    · simp at h
def tupE : List AV → AV
  | [x] => x
  | xs => .tup xs
theorem results_run {a : Act} {fn : Func} {xs : List AV} (h : resList P fr H fn.results.toList = some xs) (hf : FR G w ρ fr a.tmps) (hb : BR G w ρ H) :
    ∃ v, (results fn a.tmps).run P w = .ok v w ∧ VR G w ρ (tupE xs) v := by
  obtain ⟨vs, h1, h2⟩ := resList_run hf hb h
  have hrun : (fn.results.mapM (m := Sem) fun r => match r with | .tmp t => pure (a.tmps.getD t undef) | .cell p t => do loadVar t (← asAddr (a.tmps.getD p undef))).run P w = .ok vs.toArray w := by
    rw [← Array.toArray_toList (xs := fn.results), List.mapM_toArray, Sem.run_map, h1]
    rfl
  refine ⟨if h : vs.toArray.size = 1 then vs.toArray[0] else .tuple vs.toArray, ?_, ?_⟩
  · unfold results
    rw [Sem.run_bind]
    refine Eq.trans (congrArg (fun r => Result.andThen r _) (?_ : _ = Result.ok vs.toArray w)) rfl
    exact hrun
  · have hl := h2.1
    clear h h1 hrun
    match xs, vs, hl, h2 with
    | [x], [v], _, h2 => exact h2.2 0 x v rfl rfl
    | [], [], _, h2 => exact .tup _ _ _ h2.1 h2.2
    | x :: y :: l, v :: u :: l2, hl, h2 => exact .tup _ _ _ h2.1 h2.2
/-- a single result, its room with it; the others' owners are gone -/
def retT (t : Option Nat) : Own → Own
  | .slot i c => if some i = t then .res c else .free
  | .res _ => .free
  | x => x
theorem retT_re (t : Option Nat) : ReTag (retT t) := by
  constructor
  · intro x; cases x <;> simp [retT]; split <;> simp
  · intro x; cases x <;> simp [retT]; split <;> simp
  · rfl
  · intro x; cases x <;> simp [retT, Own.mine]
theorem leave_ret {b : Frame} {a : Act} {S : List Item} {cs : List Frame} {fn : Func} {v : Value} (hk : b.kind = .normal) (hd : a.defers = []) (hb : b.fn = f) (hf : P.funcs[f]? = some fn) (hr : (results fn a.tmps).run P w = .ok v w) :
    ∃ frm, Steps P (lone (b.at a (.code .ret :: S)) cs w) (lone frm cs w) ∧ frm.fn = f ∧ frm.leaving P w (.returned v) :=
  ⟨_, .one step_ret, hb, rfl, hd, hk, fn, by show P.funcs[b.fn]? = some fn; rw [hb]; exact hf, hr⟩
theorem Runs.ret {fn : Func} {xs : List AV} (hf : P.funcs[f]? = some fn) (h : resList P fr H fn.results.toList = some xs) (hr : tupE xs = res) (hn : nr res = true) : Runs P f n k0 (.code .ret :: S) fr H res H := by
  intro b a w G ρ h1 h2 h3 hk h4 cs
  obtain ⟨v, e1, e2⟩ := results_run h h4.fr h4.br
  rw [hr] at e2
  obtain ⟨frm, s1, s2, s3⟩ := leave_ret (S := S) (cs := cs) h2 h3 h1 hf e1
  exact ⟨v, w, reG (retT none) G, ρ, frm, s1, s2, s3, (retT_re none).trans .., (retT_re none).wi h4.wi, rfl, (retT_re none).br (fun _ => rfl) (fun _ _ => rfl) h4.br, e2.keep ((retT_re none).keeps _ _), SpV_nr hn⟩
/-! ### 2. Ghost steps -/
theorem Runs.ghost {fr2 : Fr} {H2 : Heap} (h : ∀ (w : World) (G : Gh) (ρ : List Nat) (tmps : Array Value), k0 ≤ ρ.length → Inv G w ρ n fr H tmps → ∃ G' ρ', Trans G w G' w ∧ Inv G' w ρ' n fr2 H2 tmps ∧ k0 ≤ ρ'.length ∧ ρ'.take k0 = ρ.take k0)
    (hk : Runs P f n k0 S fr2 H2 res H') : Runs P f n k0 S fr H res H' := by
  intro b a w G ρ h1 h2 h3 hkk h4 cs
  obtain ⟨G', ρ', e1, e2, e3, e4⟩ := h w G ρ a.tmps hkk h4
  obtain ⟨v, w', G2, ρ2, frm, s1, s2, s3, t1, t2, t3, t4⟩ := hk b a w G' ρ' h1 h2 h3 e3 e2 cs
  exact ⟨v, w', G2, ρ2, frm, s1, s2, s3, e1.trans t1, t2, t3.trans e4, t4⟩
/-- 'b' says no more than 'a' -/
def Imp (a b : AV) : Prop := ∀ (G : Gh) (w : World) (ρ : List Nat) (v : Value), VR G w ρ a v → VR G w ρ b v ∧ ∀ T, Sp G T a v → Sp G T b v
theorem Runs.conv (s : Nat) {a : AV} (hi : Imp (fr s) a) (ha : nr1 a = true ∨ ∀ vs, fr s ≠ .tup vs) (hb : ∀ vs, a ≠ .tup vs) (hk : Runs P f n k0 S (fr.set s a) H res H') : Runs P f n k0 S fr H res H' := by
  refine Runs.ghost (fun w G ρ tmps hkk h4 => ⟨G, ρ, Trans.refl _ _, ⟨h4.size, fun i => ?_, h4.br, h4.wi⟩, hkk, rfl⟩) hk
  unfold Fr.set
  cases hq : Nat.beq i s with
  | true =>
    have := Nat.eq_of_beq_eq_true hq
    subst this
    obtain ⟨e1, e2⟩ := hi G w ρ _ (h4.fr i).1
    refine ⟨e1, SpV_of_Sp ?_ hb⟩
    rcases ha with ha | ha
    · exact Sp_nr1 ha
    · have := (h4.fr i).2
      refine e2 _ ?_
      revert this ha
      cases fr i <;> first | exact fun _ h => h | exact fun h => absurd rfl (h _)
  | false => exact h4.fr i
theorem Imp.refl (a : AV) : Imp a a := fun _ _ _ _ h => ⟨h, fun _ h => h⟩
theorem Imp.sl {sz m : Nat} {el el' : Nat → AV} {o : Bool} (h : ∀ i, i < m → el' i = el i) : Imp (.sl sz m el o) (.sl sz m el' o) := fun G w ρ v hv => ⟨hv.sl_congr h, fun T hs => by
  cases o with
  | false => simp [Sp]
  | true =>
    cases v with
    | slice a l c => cases a <;> simp_all [Sp]
    | _ => simp [Sp]⟩
theorem Imp.slEq {sz m m' : Nat} {el el' : Nat → AV} {o : Bool} (hm : m = m') (h : ∀ i, i < m → el' i = el i) : Imp (.sl sz m el o) (.sl sz m' el' o) := by subst hm; exact Imp.sl h
theorem Imp.slB {m : Nat} {el : Nat → AV} {o : Bool} {s : List UInt8} (hm : m = s.length) (h : ∀ i, i < s.length → byteEl s i = el i) : Imp (.sl 1 m el o) (.bs s o) := fun G w ρ v hv => by
  subst hm
  refine ⟨.bs _ _ _ _ ((hv.pf rfl []).sl_congr h), fun T hs => ?_⟩
  cases o with
  | false => simp [Sp]
  | true => exact Sp_bs_sl.2 hs
theorem Imp.un1 (a : AV) : Imp a (un1 a) := fun G w ρ v hv => ⟨hv.un1, fun T _ => Sp_un1 ..⟩
/-- blocks that nobody needs any more -/
def okp (m : Nat) : AV → Bool
  | .ptr id _ => Nat.blt id m
  | .hs id _ _ _ => Nat.blt id m
  | .iface _ v => okp m v
  | .fn _ cap => cap.all fun c => match c with | .ptr id _ => Nat.blt id m | .hs id _ _ _ => Nat.blt id m | x => pf x
  | .agg cs => cs.all fun c => match c with | .ptr id _ => Nat.blt id m | .hs id _ _ _ => Nat.blt id m | x => pf x
  | .tup cs => cs.all fun c => match c with | .ptr id _ => Nat.blt id m | .hs id _ _ _ => Nat.blt id m | x => pfA x
  | _ => true
def san (m : Nat) (a : AV) : AV := bif okp m a then a else .bad
theorem take_at {l : List Nat} {m id b : Nat} (h : l[id]? = some b) (hm : Nat.blt id m = true) : (l.take m)[id]? = some b := by
  rw [List.getElem?_take, if_pos (show id < m from Nat.le_of_ble_eq_true hm)]; exact h
theorem VR.okp {m : Nat} {a : AV} {v : Value} (h : VR G w ρ a v) : okp m a = true → VR G w (ρ.take m) a v := by
  induction h with
  | int => exact fun _ => .int ..
  | bool => exact fun _ => .bool ..
  | str => exact fun _ => .str ..
  | sl ρ sz n el own base cap vs hn hb hsz hc hv ih => exact fun _ => .sl _ _ _ _ _ _ _ vs hn hb hsz hc hv
  | bs ρ s own v h ih => exact fun _ => .bs _ _ _ _ h
  | hs ρ id off len cap b h => exact fun k => .hs _ _ _ _ _ _ (take_at h k)
  | ptr ρ id off b h => exact fun k => .ptr _ _ _ _ (take_at h k)
  | nilp => exact fun _ => .nilp _
  | cptr ρ v b o vs hc hv ih => exact fun _ => .cptr _ _ _ _ vs hc hv
  | fn ρ f cap vs hl hv ih =>
    intro k
    simp only [Am.okp, List.all_eq_true] at k
    refine .fn _ _ _ vs hl fun q c v h1 h2 => ?_
    have hp := k c (List.mem_of_getElem? h1)
    have hh := hv q c v h1 h2
    cases c with
    | ptr id off => obtain ⟨b, hb, rfl⟩ := hh.ptr_inv; exact .ptr _ _ _ _ (take_at hb hp)
    | hs id off l c => obtain ⟨b, hb, rfl⟩ := hh.hs_inv; exact .hs _ _ _ _ _ _ (take_at hb hp)
    | _ => exact hh.pf hp _
  | bfn ρ g r v hh ih =>
    intro k
    simp only [Am.okp, List.all_eq_true] at k
    have hp := k r (by simp)
    refine .bfn _ _ _ _ ?_
    cases r with
    | ptr id off => obtain ⟨b, hb, rfl⟩ := hh.ptr_inv; exact .ptr _ _ _ _ (take_at hb hp)
    | hs id off l c => obtain ⟨b, hb, rfl⟩ := hh.hs_inv; exact .hs _ _ _ _ _ _ (take_at hb hp)
    | _ => exact hh.pf hp _
  | nilfn => exact fun _ => .nilfn _
  | nilsl => exact fun _ => .nilsl _
  | iface ρ t v x h ih => exact fun k => .iface _ _ _ _ (ih k)
  | nili => exact fun _ => .nili _
  | agg ρ cs vs hl hv ih =>
    intro k
    simp only [Am.okp, List.all_eq_true] at k
    refine .agg _ _ vs hl fun q c v h1 h2 => ?_
    have hp := k c (List.mem_of_getElem? h1)
    have hh := hv q c v h1 h2
    cases c with
    | ptr id off => obtain ⟨b, hb, rfl⟩ := hh.ptr_inv; exact .ptr _ _ _ _ (take_at hb hp)
    | hs id off l c => obtain ⟨b, hb, rfl⟩ := hh.hs_inv; exact .hs _ _ _ _ _ _ (take_at hb hp)
    | _ => exact hh.pf hp _
  | tup ρ cs vs hl hv ih =>
    intro k
    simp only [Am.okp, List.all_eq_true] at k
    refine .tup _ _ vs hl fun q c v h1 h2 => ?_
    have hp := k c (List.mem_of_getElem? h1)
    have hh := hv q c v h1 h2
    cases c with
    | ptr id off => obtain ⟨b, hb, rfl⟩ := hh.ptr_inv; exact .ptr _ _ _ _ (take_at hb hp)
    | hs id off l c => obtain ⟨b, hb, rfl⟩ := hh.hs_inv; exact .hs _ _ _ _ _ _ (take_at hb hp)
    | _ => exact hh.pfA hp _
  | bad => exact fun _ => .bad _ _
theorem Runs.drop (m : Nat) (hm : k0 ≤ m) (hp : (H.take m).all (·.all fun c => okp m c) = true) (hk : Runs P f n k0 S (fun i => san m (fr i)) (H.take m) res H') : Runs P f n k0 S fr H res H' := by
  refine Runs.ghost (fun w G ρ tmps hkk h4 => ⟨G, ρ.take m, Trans.refl _ _, ⟨h4.size, fun i => ?_, ⟨by simp [h4.br.len], fun id b blk j c h1 h2 h3 => ?_⟩, h4.wi⟩, by simp; omega, by rw [List.take_take, Nat.min_eq_left hm]⟩) hk
  · show VR G w (ρ.take m) (san m (fr i)) _ ∧ SpV G _ (san m (fr i)) _
    unfold san
    cases hq : okp m (fr i) with
    | true => exact ⟨(h4.fr i).1.okp hq, (h4.fr i).2⟩
    | false => exact ⟨.bad .., by simp [SpV, Sp]⟩
  · rw [List.getElem?_take] at h1 h2
    split at h1
    · rename_i hid
      rw [if_pos hid] at h2
      obtain ⟨k1, v, k2, k3, k4⟩ := h4.br.cell id b blk j c h1 h2 h3
      have : okp m c = true := by
        simp only [List.all_eq_true] at hp
        refine hp blk ?_ c (List.mem_of_getElem? h3)
        exact List.mem_of_getElem? (by rw [List.getElem?_take, if_pos hid]; exact h2)
      exact ⟨k1, v, k2, k3.okp this, k4⟩
    · simp at h1
/-- a block becomes a slice that nobody writes any more -/
def frzT (id off lo hi s : Nat) (b : Nat) : Nat → Nat → Own → Own := fun b' o' t => if t = .cell id then (if b' = b ∧ off ≤ o' ∧ o' < lo then .frz else if b' = b ∧ lo ≤ o' ∧ o' < hi then .slot s 0 else .free) else match t with
  | .spare i j => if i = id then .free else .spare i j
  | .slot i c => if i = s then .free else .slot i c
  | t => t
theorem Runs.freeze (s : Nat) {id off m cp sz : Nat} {ag : Bool} {blk : List AV} (hs : fr s = .hs id off m cp) (hB : H[id]? = some blk) (hid : k0 ≤ id) (ha : ag = true ∨ sz = 1) (hcp : m ≤ cp) (hl : off + cp * sz ≤ blk.length) (hp : ((blk.drop off).take (m * sz)).all pf = true)
    (hk : Runs P f n k0 S (fr.set s (.sl sz m (elOf ag sz ((blk.drop off).take (m * sz))) true)) (H.set id []) res H') : Runs P f n k0 S fr H res H' := by
  refine Runs.ghost (fun w G ρ tmps hkk h4 => ?_) hk
  have hv := (h4.fr s).1
  rw [hs] at hv
  obtain ⟨b, hr, he⟩ := hv.hs_inv
  have hmc : m * sz ≤ cp * sz := Nat.mul_le_mul_right _ hcp
  have hcell : ∀ q, q < cp * sz → ∃ v, G b (off + q) = .cell id ∧ w.cell? (mkA b (off + q)) = some v ∧ VR G w ρ (blk.getD (off + q) .bad) v := by
    intro q hq
    have hq2 : off + q < blk.length := by omega
    obtain ⟨k1, v, k2, k3, _⟩ := h4.br.cell id b blk (off + q) blk[off + q] hr hB (List.getElem?_eq_getElem hq2)
    exact ⟨v, k1, k2, by simpa [List.getD_eq_getElem?_getD, List.getElem?_eq_getElem hq2] using k3⟩
  let G' : Gh := fun b' o' => frzT id off (off + m * sz) (off + cp * sz) s b b' o' (G b' o')
  have hsub : Sub G G' := by
    constructor
    · intro b o h; simp [G', frzT, h]
    · intro b o h; simp [G', frzT, h]
    · intro b o h; simp [G', frzT, h]
    · intro b o h
      simp only [G', frzT] at h
      split at h
      · rename_i e; rw [e]; rfl
      · generalize G b o = t at h
        cases t <;> simp_all [Own.mine]
    · intro b o h
      simp only [G', frzT] at h
      split at h
      · rename_i e; rw [e]; exact .inr rfl
      · generalize G b o = t at h
        cases t <;> simp_all [Own.mine]
  have hkp := hsub.keeps w
  have hfz : ∀ q, q < m * sz → G' b (off + q) = .frz := fun q hq => by
    obtain ⟨v, k1, _⟩ := hcell q (by omega)
    simp only [G', frzT, k1, if_true]
    rw [if_pos ⟨trivial, by omega, by omega⟩]
  refine ⟨G', ρ, hsub.trans fun b o e => (h4.wi.own b o e).2, ⟨h4.size, fun i => ?_, ⟨by rw [List.length_set]; exact h4.br.len, fun id' b' blk' j c h1 h2 h3 => ?_⟩, hsub.wi h4.wi⟩, hkk, rfl⟩
  · unfold Fr.set
    cases hq : Nat.beq i s with
    | true =>
      have := Nat.eq_of_beq_eq_true hq
      subst this
      rw [he]
      simp only [cond_true]
      let cs := (blk.drop off).take (m * sz)
      have hcsl : cs.length = m * sz := by simp [cs]; omega
      have hat : ∀ q, q < m * sz → cs[q]? = some (blk.getD (off + q) .bad) := by
        intro q hq
        simp only [cs]
        rw [List.getElem?_take, if_pos hq, List.getElem?_drop]
        simp [List.getD_eq_getElem?_getD, List.getElem?_eq_getElem (show off + q < blk.length by omega)]
      obtain ⟨vs, hvs, hvc⟩ := list_of_fun (G := G) (w := w) (ρ := ρ) (cs := cs) (p := fun q v => w.cell? (mkA b (off + q)) = some v) (fun q c hc => by
        have hq : q < m * sz := by rw [← hcsl]; exact (List.getElem?_eq_some_iff.1 hc).1
        have hq' : q < cp * sz := Nat.lt_of_lt_of_le hq hmc
        obtain ⟨v, _, k2, k3⟩ := hcell q hq'
        rw [hat q hq] at hc
        simp at hc
        rw [← hc]
        exact ⟨v, k2, by simpa using k3⟩)
      obtain ⟨_, r2, r3⟩ := rowOf (m := m) (ag := ag) hvs hp hcsl ha
      refine ⟨.sl _ _ _ _ _ (some (b, off)) cp (fun q => vs.getD q undef) hcp (by simp) r2 (fun b' o' e q hq => ?_) (fun i j c hi hc => ?_), SpV_of_Sp ?_ (by simp)⟩
      · simp only [Option.some.injEq, Prod.mk.injEq] at e
        obtain ⟨rfl, rfl⟩ := e
        have hql : q < vs.length := by rw [hvs.1, hcsl]; exact hq
        refine ⟨hfz q hq, ?_⟩
        have := hvc q vs[q] (List.getElem?_eq_getElem hql)
        simpa [List.getD_eq_getElem?_getD, List.getElem?_eq_getElem hql] using this
      · have hj : j < sz := by rw [← r2 i hi]; exact (List.getElem?_eq_some_iff.1 hc).1
        have hq : i * sz + j < vs.length := by
          rw [hvs.1, hcsl]
          have : (i + 1) * sz ≤ m * sz := Nat.mul_le_mul_right _ hi
          rw [Nat.succ_mul] at this; omega
        have := (r3 i j c vs[i * sz + j] hi hc (List.getElem?_eq_getElem hq)).keep hkp
        simpa [List.getD_eq_getElem?_getD, List.getElem?_eq_getElem hq] using this
      · intro _ q h1 h2
        obtain ⟨v, k1, _⟩ := hcell q h2
        show G' b (off + q) = _
        simp only [G', frzT, k1, if_true]
        have h1' : m * sz ≤ q := h1
        rw [if_neg (by omega), if_pos ⟨trivial, by omega, by omega⟩]
    | false =>
      have hne : i ≠ s := fun e => by rw [e, Nat.beq_refl] at hq; cases hq
      exact ⟨(h4.fr i).1.keep hkp, (h4.fr i).2.map fun c b o e => by simp [G', frzT, e, hne]⟩
  · rw [List.getElem?_set] at h2
    split at h2
    · split at h2
      · simp at h2; subst h2; simp at h3
      · simp at h2
    · rename_i hne
      obtain ⟨k1, v, k2, k3, k4⟩ := h4.br.cell id' b' blk' j c h1 h2 h3
      have hne2 : id' ≠ id := fun e => hne e.symm
      exact ⟨by simp [G', frzT, k1, hne2], v, k2, k3.keep hkp, k4.map fun b o e => by simp [G', frzT, e, hne2]⟩
/-- what is appended to a block that has room lies in the block -/
def srcS (x : AV) : Option (Nat × Nat × (Nat → AV)) :=
  match x with
  | .bs s _ => some (1, s.length, byteEl s)
  | .sl sz m el _ => some (sz, m, el)
  | _ => none
theorem OpSem.appendHs {o : Oper} {tt t2 e by_ sz t id off len cap m : Nat} {x : Operand} {sx : AV} {el : Nat → AV} {blk : List AV} (ho : o.op = .call { callee := .builtin .append, args := #[.tmp t, x], argTypes := #[tt, t2] })
    (ht : slT P tt = some (e, sz, by_)) (h2 : isSS P t2 = true) (hD : fr t = .hs id off len cap) (hX : opd P t2 fr x = sx) (hS : srcS sx = some (sz, m, el)) (hB : H[id]? = some blk) (hcap : len + m ≤ cap) (hl : off + cap * sz ≤ blk.length) (hc : ∀ i, i < m → (el i).cells.all isCell = true) :
    OpSem P o fr H (.hs id off (len + m) cap) fr (H.set id (putCells blk (off + len * sz) ((cpy m el).map un1))) := by
  intro b a w G ρ n ops i rest k' cs hoi hw hi
  obtain ⟨hu, inf, zs, h3, h4, rfl, rfl⟩ := slT_some ht
  have hd := (hi.fr t).1
  rw [hD] at hd
  obtain ⟨b', hr, hde⟩ := hd.hs_inv
  have hx := VR.opd (P := P) (t := t2) hi.fr x
  rw [hX] at hx
  have hsl : VR G w [] (.sl inf.size m el true) (a.eval x) ∨ VR G w ρ (.sl inf.size m el false) (a.eval x) ∨ VR G w ρ (.sl inf.size m el true) (a.eval x) ∨ VR G w [] (.sl inf.size m el false) (a.eval x) := by
    unfold srcS at hS
    split at hS <;> simp only [Option.some.injEq, Prod.mk.injEq, reduceCtorEq] at hS <;> obtain ⟨e1, e2, e3⟩ := hS
    · rename_i s o2
      subst e3; subst e2
      have := hx.bs_inv
      rw [← e1]
      cases o2
      · exact .inr (.inr (.inr this))
      · exact .inl this
    · rename_i z m' el' o2
      subst e1; subst e2; subst e3
      cases o2
      · exact .inr (.inl hx)
      · exact .inr (.inr (.inl hx))
  obtain ⟨news, hs⟩ : ∃ news, Src P G w inf.size m el (a.eval x) news := by
    rcases hsl with h | h | h | h <;> exact src_sl (P := P) hi.wi h
  obtain ⟨c1, c2⟩ := cpy_at hs.elsz
  have hvr : VRs G w ρ (cpy m el) news := ⟨by rw [hs.size, c1], fun q c v h1 h2 => by
    have hq := (List.getElem?_eq_some_iff.1 h1).1
    rw [c1] at hq
    have hz : 0 < inf.size := by
      rcases Nat.eq_zero_or_pos inf.size with h0 | h0
      · rw [h0] at hq; simp at hq
      · exact h0
    have hi1 : q / inf.size < m := by rw [Nat.div_lt_iff_lt_mul hz]; exact hq
    have hj := Nat.mod_lt q hz
    have hqe : q / inf.size * inf.size + q % inf.size = q := by rw [Nat.mul_comm]; exact Nat.div_add_mod ..
    have := c2 _ _ hi1 hj
    rw [hqe, h1] at this
    exact (hs.val _ _ c v hi1 this.symm (by rw [hqe]; exact h2)).of_nil⟩
  have hcell : ((cpy m el).map un1).all isCell = true := by
    rw [List.all_eq_true]
    intro y hy
    obtain ⟨z, hz, rfl⟩ := List.mem_map.1 hy
    obtain ⟨x, hx, hz⟩ := List.mem_flatMap.1 hz
    obtain ⟨i, hi, rfl⟩ := List.mem_map.1 hx
    have := (List.all_eq_true.1 (hc i (by simpa using hi))) z hz
    cases z <;> simp_all [Am.un1, isCell]
  have hle : len * inf.size + m * inf.size ≤ cap * inf.size := by rw [← Nat.add_mul]; exact Nat.mul_le_mul_right _ hcap
  obtain ⟨hwr, hinv⟩ := store_inv (off := off + len * inf.size) hi hr hB hvr.un1 hcell (fun y hy G t v => by obtain ⟨z, hz, rfl⟩ := List.mem_map.1 hy; exact Sp_un1 ..) (by simp [c1]; omega)
  have hrun := run_append_room (P := P) (ty := o.type) hu h3 h2 hs hi.wi hcap hwr
  have hEx : (execOp a.eval o).run P w = .ok (.value (.slice (some (mkA b' off)) (len + m) cap)) (w.setCells b' (off + len * inf.size) news) := append_exec ho (by rw [hde]; exact hrun)
  refine ⟨_, _, reG (clrT id (off + len * inf.size) ((cpy m el).map un1).length) G, [], .one (step_value hoi hw hEx), hwr.trans.trans ((clrT_re ..).trans _ _), ?_⟩
  rw [List.append_nil]
  exact ⟨hinv, .hs _ _ _ _ _ _ hr, by simp [SpV, Sp]⟩
end Go.Am
set_option linter.unusedSectionVars false
set_option linter.unusedVariables false
set_option linter.unusedSimpArgs false
namespace Go.Am
open Go
variable [Tab]
variable {P : Program} {n k0 : Nat} {fr fr1 : Fr} {H H1 : Heap} {f : FuncId} {S : List Item} {res : AV} {H' : Heap} {ops : Array Oper}

/-- looked at, then handed on -/
def AV.force {β : Type} (a : AV) (k : AV → β) : β := match a with
  | .int i x => k (.int i x)
  | .bool x => k (.bool x)
  | .str x => k (.str x)
  | .bs x o => k (.bs x o)
  | .sl a b c d => k (.sl a b c d)
  | .hs a b c d => k (.hs a b c d)
  | .ptr a b => k (.ptr a b)
  | .nilp => k .nilp
  | .cptr x => k (.cptr x)
  | .fn x y => k (.fn x y)
  | .nilfn => k .nilfn
  | .nilsl => k .nilsl
  | .iface a b => k (.iface a b)
  | .nili => k .nili
  | .agg x => k (.agg x)
  | .tup x => k (.tup x)
  | .bad => k .bad
theorem AV.force_eq {β : Type} (a : AV) (k : AV → β) : a.force k = k a := by cases a <;> rfl
def litLen {α : Type} {β : Type} (l : List α) (k : Nat → β) : β := match l with
  | [] => k 0
  | [_] => k 1
  | [_, _] => k 2
  | [_, _, _] => k 3
  | [_, _, _, _] => k 4
  | [_, _, _, _, _] => k 5
  | [_, _, _, _, _, _] => k 6
  | [_, _, _, _, _, _, _] => k 7
  | [_, _, _, _, _, _, _, _] => k 8
  | l => k l.length
theorem litLen_eq {α : Type} {β : Type} (l : List α) (k : Nat → β) : litLen l k = k l.length := by
  unfold litLen; split <;> rfl
def setL {α β : Type} : List α → Nat → α → (List α → β) → β
  | [], _, _, k => k []
  | _ :: r, 0, x, k => k (x :: r)
  | a :: r, n + 1, x, k => setL r n x fun r' => k (a :: r')
theorem setL_eq {α β : Type} : ∀ (l : List α) (n : Nat) (x : α) (k : List α → β), setL l n x k = k (l.set n x)
  | [], _, _, _ => rfl
  | _ :: _, 0, _, _ => rfl
  | a :: r, n + 1, x, k => by unfold setL; rw [setL_eq r n x]; rfl
def snocL {α β : Type} : List α → α → (List α → β) → β
  | [], x, k => k [x]
  | a :: r, x, k => snocL r x fun r' => k (a :: r')
theorem snocL_eq {α β : Type} : ∀ (l : List α) (x : α) (k : List α → β), snocL l x k = k (l ++ [x])
  | [], _, _ => rfl
  | a :: r, x, k => by unfold snocL; rw [snocL_eq r x]; rfl
def cellsF {β : Type} : List AV → (List AV → β) → β
  | [], k => k []
  | a :: r, k => a.force fun a => cellsF r fun r => k (a :: r)
theorem cellsF_eq {β : Type} : ∀ (l : List AV) (k : List AV → β), cellsF l k = k l
  | [], _ => rfl
  | a :: r, k => by unfold cellsF; rw [AV.force_eq, cellsF_eq r]
/-- the condition, the value, the slot whose room is taken, the heap -/
abbrev R4 := Option (Prop × AV × Option (Nat × AV) × Heap)
/-- a call: the blocks that are lent, the result, the blocks behind it -/
structure CallK where
  L : List Nat := []
  res : AV
  H' : Heap := []
def upd (fr : Fr) (u : Option (Nat × AV)) : Fr := match u with
  | some (t, x) => fr.set t x
  | none => fr
def pureM (P : Program) (fr : Fr) (H : Heap) (o : Oper) : R4 := match evP P fr H o with
  | some (c, v) => some (c, v, none, H)
  | none => none
/-- a slot's value, its room with it -/
def takeM (P : Program) (fr : Fr) (H : Heap) (o : Oper) (t : Nat) : R4 := match fr t with
  | .bs s true => some (True, .bs s true, some (t, (.bs s false)), H)
  | .sl sz m el true => some (True, .sl sz m el true, some (t, (.sl sz m el false)), H)
  | .tup vs => some (True, .tup vs, some (t, (.tup (vs.map un1))), H)
  | _ => pureM P fr H o
def takeXM (P : Program) (fr : Fr) (H : Heap) (o : Oper) (t j : Nat) : R4 := match fr t with
  | .tup vs => match vs[j]? with
    | some (.bs s true) => some (True, .bs s true, some (t, (.tup (vs.set j (.bs s false)))), H)
    | some (.sl sz m el true) => some (True, .sl sz m el true, some (t, (.tup (vs.set j (.sl sz m el false)))), H)
    | _ => pureM P fr H o
  | _ => none
def appendM (P : Program) (fr : Fr) (H : Heap) (t : Nat) (x : Operand) (tt t2 : TypeId) : R4 :=
  match slT P tt, isSS P t2 with
  | some (_, sz, by_), true => match fr t, opd P t2 fr x with
    | .bs s true, .bs s2 _ => match sz with
      | 1 => bif Nat.ble by_ 65536 then some (s.length + s2.length ≤ 2147483648, .bs (s ++ s2) true, some (t, (.bs s false)), H) else none
      | _ => none
    | .bs s true, .str s2 => match sz with
      | 1 => bif Nat.ble by_ 65536 then some (s.length + s2.length ≤ 2147483648, .bs (s ++ s2) true, some (t, (.bs s false)), H) else none
      | _ => none
    | .bs s true, .hs id off m _ => match sz, H[id]? with
      | 1, some blk => match bytesE ((blk.drop off).take m) with
        | some ns => bif Nat.ble by_ 65536 && Nat.beq ns.length m then some ((∀ x, x ∈ ns → 0 ≤ x ∧ x < 256) ∧ s.length + m ≤ 2147483648, .bs (s ++ ns.map toB) true, some (t, (.bs s false)), H) else none
        | none => none
      | _, _ => none
    | .sl z len el true, .sl z2 m el2 _ => bif Nat.beq z sz && Nat.beq z2 sz && Nat.ble by_ 65536 then
        some (len + m ≤ 2147483648, .sl z (len + m) (apEl len el el2) true, some (t, (.sl z len el false)), H) else none
    | _, _ => none
  | _, _ => none
/-- a row as a block: a mark at the operation ('L' not empty) asks for it -/
def hMark (ck : Option CallK) : Bool := match ck with
  | some k => match k.L with
    | [] => false
    | _ => true
  | none => false
def appendHM (P : Program) (fr : Fr) (H : Heap) (t : Nat) (x : Operand) (tt t2 : TypeId) : R4 :=
  match slT P tt, isSS P t2 with
  | some (_, sz, _), true => match fr t, srcS (opd P t2 fr x) with
    | .hs id off len cap, some (z, m, el) => bif Nat.beq z sz then match H[id]? with
      | some blk => setL H id (putCells blk (off + len * sz) ((cpy m el).map un1)) fun H1 => some (len + m ≤ cap ∧ off + cap * sz ≤ blk.length ∧ ∀ i, i < m → (el i).cells.all isCell = true, .hs id off (len + m) cap, none, H1)
      | none => none else none
    | _, _ => none
  | _, _ => none
def copyM (P : Program) (fr : Fr) (H : Heap) (d x : Operand) (dT sT : TypeId) : R4 :=
  match slT P dT, opd P dT fr d, srcE (opd P sT fr x) with
  | some (_, sz, _), .hs id off m _, some (z, sm, el) => bif Nat.beq z sz then match H[id]? with
    | some blk => setL H id (putCells blk off ((cpy (Nat.min sm m) el).map un1)) fun H1 => some (off + Nat.min sm m * sz ≤ blk.length ∧ ∀ i, i < Nat.min sm m → (el i).cells.all isCell = true, .int .i64 (Nat.min sm m), none, H1)
    | none => none else none
  | _, _, _ => none
def litM (P : Program) (fr : Fr) (H : Heap) (t len : Nat) (parts : Array (Nat × Operand)) : R4 :=
  match litE P t len (partsE P 0 fr parts) with
  | some (e, ag, sz, cs) => match P.underlying e with
    | some (.int .u8) => match ag, sz, bytesE cs with
      | false, 1, some ns => bif Nat.beq ns.length len then some (∀ x, x ∈ ns → 0 ≤ x ∧ x < 256, .bs (ns.map toB) true, none, H) else none
      | _, _, _ => none
    | _ => some (True, .sl sz len (elOf ag sz cs) true, none, H)
  | none => none
def litHM (P : Program) (fr : Fr) (H : Heap) (t len : Nat) (parts : Array (Nat × Operand)) : R4 :=
  match litE P t len (partsE P 0 fr parts) with
  | some (_, _, _, cs) => litLen H fun hl => cellsF (cs.map un1) fun cs => snocL H cs fun H1 => some (True, .hs hl 0 len len, none, H1)
  | none => none
def makeM (P : Program) (fr : Fr) (H : Heap) (t : TypeId) (l c : Operand) : R4 :=
  match slT P t, opd P 3 fr c with
  | some (e, sz, by_), .int _ x => bif Nat.ble by_ 65536 then (match l with
    | .const (.int _ 0) => match P.underlying e, sz with
      | some (.int .u8), 1 => some (0 ≤ x ∧ x ≤ 4294967296, .bs [] true, none, H)
      | _, sz => some (0 ≤ x ∧ x ≤ 4294967296, .sl sz 0 (fun _ => .bad) true, none, H)
    | l => match opd P 3 fr l, zeroE P e with
      | .int _ y, some zs => litLen H fun hl => snocL H (rep x.toNat zs) fun H1 => some (0 ≤ y ∧ y ≤ x ∧ x ≤ 4294967296, .hs hl 0 y.toNat x.toNat, none, H1)
      | _, _ => none) else none
  | _, _ => none
def boxM (P : Program) (fr : Fr) (H : Heap) (t : TypeId) (x : Operand) : R4 :=
  (opd P t fr x).force fun a => bif notTB a && a.cells.all isCell then cellsF (a.cells.map un1) fun cs => litLen H fun hl => snocL H cs fun H1 => some (True, .ptr hl 0, none, H1) else none
def storeM (P : Program) (fr : Fr) (H : Heap) (t : TypeId) (A X : Operand) : R4 :=
  match opd P t fr A with
  | .ptr id off => (opd P t fr X).force fun x => match H[id]?, szT P t with
    | some blk, some z => bif notTB x && x.cells.all isCell && Nat.beq z x.cells.length then (match x.cells with
      | [c] => (un1 c).force fun c => setL H id (blk.set off c) fun H1 => some (off + 1 ≤ blk.length, .bad, none, H1)
      | cs => setL H id (putCells blk off (cs.map un1)) fun H1 => some (off + cs.length ≤ blk.length, .bad, none, H1)) else none
    | _, _ => none
  | _ => none
def convM (P : Program) (fr : Fr) (H : Heap) (o : Oper) (s d : TypeId) (x : Operand) : R4 :=
  match P.underlying d with
  | some (.slice e) => match P.underlying s, opd P s fr x, P.underlying e with
    | some .string, .str a, some (.int .u8) => some (True, .bs a true, none, H)
    | _, _, _ => none
  | _ => pureM P fr H o
def buildM (P : Program) (fr : Fr) (H : Heap) (t : TypeId) (parts : Array (Nat × Operand)) : R4 :=
  match buildE P t (partsE P 0 fr parts) with
  | some v => some (True, v, none, H)
  | none => none
def callM (P : Program) (fr : Fr) (H : Heap) (c : Call) (f : Operand) (k : CallK) : R4 :=
  match opd P 0 fr f with
  | .fn (.func g) cap => match lendAll k.L ((c.args.toList.zipIdx.map fun p => opd P (c.argTypes.getD p.2 0) fr p.1) ++ cap) with
    | some args => bif hasBody P g && pfR k.res then (match k.L with
      | [] => match k.H' with
        | [] => some (FnOK P g args [] k.res [], k.res, none, H)
        | _ => none
      | L => bif decide L.Nodup && L.all (fun id => Nat.blt id H.length) && Nat.beq k.H'.length L.length then
          some ((winH L H).all (·.all pf) = true ∧ k.H'.all (·.all pf) = true ∧ FnOK P g args (winH L H) k.res k.H', k.res, none, backH L H k.H') else none) else none
    | none => none
  | _ => none
/-- one operation: what must hold, its value, what it leaves -/
def evN (P : Program) (tk : Bool) (ck : Option CallK) (fr : Fr) (H : Heap) (o : Oper) : R4 :=
  match o.op with
  | .move (.const v) => some (True, ofVal P o.type v, none, H)
  | .assign (.const v) => some (True, ofVal P o.type v, none, H)
  | .move (.tmp t) => bif tk then takeM P fr H o t else pureM P fr H o
  | .assign (.tmp t) => bif tk then takeM P fr H o t else pureM P fr H o
  | .extract (.tmp t) j => bif tk then takeXM P fr H o t j else pureM P fr H o
  | .call c => match c.callee, c.args.toList, c.argTypes.toList with
    | .builtin .append, [.tmp t, x], [tt, t2] => bif hMark ck then appendHM P fr H t x tt t2 else appendM P fr H t x tt t2
    | .builtin .copy, [d, x], [dT, sT] => copyM P fr H d x dT sT
    | .builtin _, _, _ => pureM P fr H o
    | .value f, _, _ => match ck with
      | some k => callM P fr H c f k
      | none => none
    | _, _, _ => none
  | .buildSlice t len parts => bif hMark ck then litHM P fr H t len parts else litM P fr H t len parts
  | .makeSlice t l c => makeM P fr H t l c
  | .alloc t => match zeroE P t with
    | some cs => cellsF cs fun cs => litLen H fun hl => snocL H cs fun H1 => some (True, .ptr hl 0, none, H1)
    | none => none
  | .box t x => boxM P fr H t x
  | .store t A X => storeM P fr H t A X
  | .convert s d x => convM P fr H o s d x
  | .build t parts => buildM P fr H t parts
  | _ => pureM P fr H o
theorem pureM_sound {o : Oper} {c : Prop} {v : AV} {u : Option (Nat × AV)} (h : pureM P fr H o = some (c, v, u, H1)) (hc : c) : OpSem P o fr H v (upd fr u) H1 := by
  unfold pureM at h
  split at h
  · rename_i e
    simp only [Option.some.injEq, Prod.mk.injEq] at h
    obtain ⟨rfl, rfl, rfl, rfl⟩ := h
    exact OpSem.pure e hc
  · simp at h
theorem takeM_sound {o : Oper} {t : Nat} {c : Prop} {v : AV} {u : Option (Nat × AV)} (ho : o.op = .move (.tmp t) ∨ o.op = .assign (.tmp t)) (h : takeM P fr H o t = some (c, v, u, H1)) (hc : c) : OpSem P o fr H v (upd fr u) H1 := by
  have key := OpSem.take (P := P) (fr := fr) (H := H) ho
  unfold takeM at h
  split at h
  case h_4 => exact pureM_sound h hc
  all_goals
    rename_i e
    simp only [Option.some.injEq, Prod.mk.injEq] at h
    obtain ⟨_, rfl, rfl, rfl⟩ := h
    rw [e] at key
    exact key
theorem takeXM_sound {o : Oper} {t j : Nat} {c : Prop} {v : AV} {u : Option (Nat × AV)} (ho : o.op = .extract (.tmp t) j) (h : takeXM P fr H o t j = some (c, v, u, H1)) (hc : c) : OpSem P o fr H v (upd fr u) H1 := by
  unfold takeXM at h
  split at h
  · rename_i vs e
    split at h
    case h_3 => exact pureM_sound h hc
    all_goals
      rename_i e2
      simp only [Option.some.injEq, Prod.mk.injEq] at h
      obtain ⟨_, rfl, rfl, rfl⟩ := h
      exact OpSem.takeX ho e e2 (by simp)
  · simp at h
theorem toList_eq {α : Type} {a : Array α} {l : List α} (h : a.toList = l) : a = l.toArray := by rw [← h]
theorem by_le {a b : Nat} (h : Nat.ble b 65536 = true) (hc : a ≤ 2147483648) : a * b ≤ 140737488355328 :=
  Nat.mul_le_mul hc (Nat.le_of_ble_eq_true h)
theorem by_le2 {x : Int} {b : Nat} (h : Nat.ble b 65536 = true) (h0 : 0 ≤ x) (hc : x ≤ 4294967296) : x * b ≤ 281474976710656 := by
  have h := Nat.le_of_ble_eq_true h
  have : x * b ≤ 4294967296 * b := Int.mul_le_mul_of_nonneg_right hc (by omega)
  omega
theorem appendM_sound {o : Oper} {c' : Call} {t : Nat} {x : Operand} {tt t2 : TypeId} {c : Prop} {v : AV} {u : Option (Nat × AV)} (ho : o.op = .call c') (h1 : c'.callee = .builtin .append) (h2 : c'.args.toList = [.tmp t, x]) (h3 : c'.argTypes.toList = [tt, t2])
    (h : appendM P fr H t x tt t2 = some (c, v, u, H1)) (hc : c) : OpSem P o fr H v (upd fr u) H1 := by
  have ho' : o.op = .call { callee := .builtin .append, args := #[.tmp t, x], argTypes := #[tt, t2] } := by
    rw [ho]
    cases c'
    simp only at h1 h2 h3
    subst h1
    rw [toList_eq h2, toList_eq h3]
  unfold appendM at h
  split at h
  · rename_i e sz by_ hs h2
    split at h
    · rename_i e1 e2
      split at h
      · rw [Bool.cond_eq_ite] at h
        split at h
        · rename_i hby
          simp only [Option.some.injEq, Prod.mk.injEq] at h
          obtain ⟨rfl, rfl, rfl, rfl⟩ := h
          have key := OpSem.appendB (P := P) (fr := fr) (H := H) ho' hs h2 e1 (.inl ⟨_, e2⟩) (by_le hby hc) (Nat.le_trans hc (by decide))
          rw [e1] at key; exact key
        · simp at h
      · simp at h
    · rename_i e1 e2
      split at h
      · rw [Bool.cond_eq_ite] at h
        split at h
        · rename_i hby
          simp only [Option.some.injEq, Prod.mk.injEq] at h
          obtain ⟨rfl, rfl, rfl, rfl⟩ := h
          have key := OpSem.appendB (P := P) (fr := fr) (H := H) ho' hs h2 e1 (.inr e2) (by_le hby hc) (Nat.le_trans hc (by decide))
          rw [e1] at key; exact key
        · simp at h
      · simp at h
    · rename_i e1 e2
      split at h
      · rename_i e3
        split at h
        · rename_i e4
          rw [Bool.cond_eq_ite] at h
          split at h
          · rename_i hq
            rw [Bool.and_eq_true] at hq
            simp only [Option.some.injEq, Prod.mk.injEq] at h
            obtain ⟨rfl, rfl, rfl, rfl⟩ := h
            have key := OpSem.appendH (P := P) (fr := fr) (H := H) ho' hs h2 e1 e2 e3 e4 hq.2 hc.1 (by_le hq.1 hc.2) (Nat.le_trans hc.2 (by decide))
            rw [e1] at key; exact key
          · simp at h
        · simp at h
      · simp at h
    · rename_i e1 e2
      rw [Bool.cond_eq_ite] at h
      split at h
      · rename_i hz
        simp only [Bool.and_eq_true] at hz
        have hz1 := Nat.eq_of_beq_eq_true hz.1.1
        have hz2 := Nat.eq_of_beq_eq_true hz.1.2
        subst hz1; subst hz2
        simp only [Option.some.injEq, Prod.mk.injEq] at h
        obtain ⟨rfl, rfl, rfl, rfl⟩ := h
        have key := OpSem.append (P := P) (fr := fr) (H := H) ho' hs h2 e1 e2 (by_le hz.2 hc) (Nat.le_trans hc (by decide))
        rw [e1] at key; exact key
      · simp at h
    · simp at h
  · simp at h
theorem appendHM_sound {o : Oper} {c' : Call} {t : Nat} {x : Operand} {tt t2 : TypeId} {c : Prop} {v : AV} {u : Option (Nat × AV)} (ho : o.op = .call c') (h1 : c'.callee = .builtin .append) (h2 : c'.args.toList = [.tmp t, x]) (h3 : c'.argTypes.toList = [tt, t2])
    (h : appendHM P fr H t x tt t2 = some (c, v, u, H1)) (hc : c) : OpSem P o fr H v (upd fr u) H1 := by
  have ho' : o.op = .call { callee := .builtin .append, args := #[.tmp t, x], argTypes := #[tt, t2] } := by
    rw [ho]
    cases c'
    simp only at h1 h2 h3
    subst h1
    rw [toList_eq h2, toList_eq h3]
  unfold appendHM at h
  split at h
  · rename_i e sz by_ hs h2
    split at h
    · rename_i e1 e2
      rw [Bool.cond_eq_ite] at h
      split at h
      · rename_i hz
        have hz := Nat.eq_of_beq_eq_true hz
        subst hz
        split at h
        · rename_i e3
          rw [setL_eq] at h
          simp only [Option.some.injEq, Prod.mk.injEq] at h
          obtain ⟨rfl, rfl, rfl, rfl⟩ := h
          exact OpSem.appendHs ho' hs h2 e1 rfl e2 e3 hc.1 hc.2.1 hc.2.2
        · simp at h
      · simp at h
    · simp at h
  · simp at h
theorem copyM_sound {o : Oper} {c' : Call} {d x : Operand} {dT sT : TypeId} {c : Prop} {v : AV} {u : Option (Nat × AV)} (ho : o.op = .call c') (h1 : c'.callee = .builtin .copy) (h2 : c'.args.toList = [d, x]) (h3 : c'.argTypes.toList = [dT, sT])
    (h : copyM P fr H d x dT sT = some (c, v, u, H1)) (hc : c) : OpSem P o fr H v (upd fr u) H1 := by
  have ho' : o.op = .call { callee := .builtin .copy, args := #[d, x], argTypes := #[dT, sT] } := by
    rw [ho]
    cases c'
    simp only at h1 h2 h3
    subst h1
    rw [toList_eq h2, toList_eq h3]
  unfold copyM at h
  split at h
  · rename_i e1 e2 e3
    rw [Bool.cond_eq_ite] at h
    split at h
    · rename_i hz
      have hz := Nat.eq_of_beq_eq_true hz
      subst hz
      split at h
      · rename_i e4
        rw [setL_eq] at h
        simp only [Option.some.injEq, Prod.mk.injEq] at h
        obtain ⟨rfl, rfl, rfl, rfl⟩ := h
        exact OpSem.copy ho' e1 e2 rfl e3 rfl e4 hc.1 hc.2
      · simp at h
    · simp at h
  · simp at h
theorem litM_sound {o : Oper} {t len : Nat} {parts : Array (Nat × Operand)} {c : Prop} {v : AV} {u : Option (Nat × AV)} (ho : o.op = .buildSlice t len parts) (h : litM P fr H t len parts = some (c, v, u, H1)) (hc : c) : OpSem P o fr H v (upd fr u) H1 := by
  unfold litM at h
  split at h
  · rename_i e1
    split at h
    · split at h
      · rename_i e2
        rw [Bool.cond_eq_ite] at h
        split at h
        · rename_i hl
          simp only [Option.some.injEq, Prod.mk.injEq] at h
          obtain ⟨rfl, rfl, rfl, rfl⟩ := h
          exact OpSem.litB ho e1 e2 hl hc
        · simp at h
      · simp at h
    · simp only [Option.some.injEq, Prod.mk.injEq] at h
      obtain ⟨rfl, rfl, rfl, rfl⟩ := h
      exact OpSem.lit ho e1
  · simp at h
theorem litHM_sound {o : Oper} {t len : Nat} {parts : Array (Nat × Operand)} {c : Prop} {v : AV} {u : Option (Nat × AV)} (ho : o.op = .buildSlice t len parts) (h : litHM P fr H t len parts = some (c, v, u, H1)) (hc : c) : OpSem P o fr H v (upd fr u) H1 := by
  unfold litHM at h
  split at h
  · rename_i e1
    rw [litLen_eq, cellsF_eq, snocL_eq] at h
    simp only [Option.some.injEq, Prod.mk.injEq] at h
    obtain ⟨rfl, rfl, rfl, rfl⟩ := h
    exact OpSem.litHs ho e1
  · simp at h
theorem makeM_sound {o : Oper} {t : TypeId} {l k : Operand} {c : Prop} {v : AV} {u : Option (Nat × AV)} (ho : o.op = .makeSlice t l k) (h : makeM P fr H t l k = some (c, v, u, H1)) (hc : c) : OpSem P o fr H v (upd fr u) H1 := by
  unfold makeM at h
  split at h
  · rename_i e1 e2
    rw [Bool.cond_eq_ite] at h
    split at h
    · rename_i hby
      split at h
      · split at h
        all_goals
          simp only [Option.some.injEq, Prod.mk.injEq] at h
          obtain ⟨rfl, rfl, rfl, rfl⟩ := h
        · exact OpSem.make0B ho e1 rfl e2 hc.1 (by_le2 hby hc.1 hc.2) (by omega)
        · exact OpSem.make0 ho e1 rfl e2 hc.1 (by_le2 hby hc.1 hc.2) (by omega)
      · split at h
        · rename_i e3 e4
          (try rw [cellsF_eq] at h); rw [litLen_eq, snocL_eq] at h
          simp only [Option.some.injEq, Prod.mk.injEq] at h
          obtain ⟨rfl, rfl, rfl, rfl⟩ := h
          exact OpSem.make ho e1 e4 e3 e2 hc.1 hc.2.1 (by_le2 hby (by omega) hc.2.2) (by omega)
        · simp at h
    · simp at h
  · simp at h
theorem boxM_sound {o : Oper} {t : TypeId} {x : Operand} {c : Prop} {v : AV} {u : Option (Nat × AV)} (ho : o.op = .box t x) (h : boxM P fr H t x = some (c, v, u, H1)) (hc : c) : OpSem P o fr H v (upd fr u) H1 := by
  unfold boxM at h
  rw [AV.force_eq, Bool.cond_eq_ite] at h
  split at h
  · rename_i e
    rw [Bool.and_eq_true] at e
    (try rw [cellsF_eq] at h); rw [litLen_eq, snocL_eq] at h
    simp only [Option.some.injEq, Prod.mk.injEq] at h
    obtain ⟨rfl, rfl, rfl, rfl⟩ := h
    exact OpSem.box ho rfl e.1 e.2
  · simp at h
theorem storeM_sound {o : Oper} {t : TypeId} {A X : Operand} {c : Prop} {v : AV} {u : Option (Nat × AV)} (ho : o.op = .store t A X) (h : storeM P fr H t A X = some (c, v, u, H1)) (hc : c) : OpSem P o fr H v (upd fr u) H1 := by
  unfold storeM at h
  split at h
  · rename_i e1
    rw [AV.force_eq] at h
    split at h
    · rename_i e2 e3
      rw [Bool.cond_eq_ite] at h
      split at h
      · rename_i e
        simp only [Bool.and_eq_true] at e
        split at h
        · rename_i c1 e4
          rw [AV.force_eq, setL_eq] at h
          simp only [Option.some.injEq, Prod.mk.injEq] at h
          obtain ⟨rfl, rfl, rfl, rfl⟩ := h
          have key := OpSem.store ho e1 rfl e2 e.1.1 e.1.2 (by rw [e3, Nat.eq_of_beq_eq_true e.2]) (Nat.ble_eq_true_of_le (by rw [e4]; exact hc))
          rw [e4] at key
          have e5 : ∀ {blk : List AV} {off : Nat}, off + 1 ≤ blk.length → putCells blk off ([c1].map un1) = blk.set off (un1 c1) := by
            intro blk off hle
            simp only [putCells, List.map_cons, List.map_nil, List.length_singleton]
            rw [List.set_eq_take_append_cons_drop, if_pos (by omega)]; rfl
          rw [e5 hc] at key
          exact key
        · rw [setL_eq] at h
          simp only [Option.some.injEq, Prod.mk.injEq] at h
          obtain ⟨rfl, rfl, rfl, rfl⟩ := h
          exact OpSem.store ho e1 rfl e2 e.1.1 e.1.2 (by rw [e3, Nat.eq_of_beq_eq_true e.2]) (Nat.ble_eq_true_of_le hc)
      · simp at h
    · simp at h
  · simp at h
theorem convM_sound {o : Oper} {s d : TypeId} {x : Operand} {c : Prop} {v : AV} {u : Option (Nat × AV)} (ho : o.op = .convert s d x) (h : convM P fr H o s d x = some (c, v, u, H1)) (hc : c) : OpSem P o fr H v (upd fr u) H1 := by
  unfold convM at h
  split at h
  · rename_i e0
    split at h
    · rename_i e1 e2 e3
      simp only [Option.some.injEq, Prod.mk.injEq] at h
      obtain ⟨rfl, rfl, rfl, rfl⟩ := h
      exact OpSem.strBytes ho e1 e0 e3 e2
    · simp at h
  · exact pureM_sound h hc
theorem OpSem.constV {o : Oper} {x : Value} (ho : o.op = .move (.const x) ∨ o.op = .assign (.const x)) : OpSem P o fr H (ofVal P o.type x) fr H := by
  intro b a w G ρ n ops i rest k cs hoi hw hi
  have hr : (execOp a.eval o).run P w = .ok (.value x) w := by
    rcases ho with ho | ho <;> simp [execOp, ho, Act.eval]
  exact ⟨x, w, G, [], .one (step_value hoi hw hr), Trans.refl _ _, by rw [List.append_nil]; exact ⟨hi, VR.ofVal .., SpV_ofVal ..⟩⟩
theorem callM_sound {o : Oper} {c' : Call} {f : Operand} {k : CallK} {c : Prop} {v : AV} {u : Option (Nat × AV)} (ho : o.op = .call c') (h1 : c'.callee = .value f) (h : callM P fr H c' f k = some (c, v, u, H1)) (hc : c) : OpSem P o fr H v (upd fr u) H1 := by
  unfold callM at h
  split at h
  · rename_i g cap e1
    split at h
    · rename_i args e2
      rw [Bool.cond_eq_ite] at h
      split at h
      · rename_i e3
        rw [Bool.and_eq_true] at e3
        split at h
        · rename_i e4
          split at h
          · rename_i e5
            simp only [Option.some.injEq, Prod.mk.injEq] at h
            obtain ⟨rfl, rfl, rfl, rfl⟩ := h
            rw [e4] at e2
            have key := OpSem.call (P := P) (H := H) (fr := fr) ho h1 e1 e3.1 rfl e2 List.nodup_nil rfl rfl hc rfl rfl e3.2
            have e6 : backH [] H [] = H := by
              unfold backH
              exact List.ext_getElem? fun i => by simp [List.getElem?_mapIdx]
            rw [e6] at key
            exact key
          · simp at h
        · rename_i e4
          rw [Bool.cond_eq_ite] at h
          split at h
          · rename_i e5
            simp only [Bool.and_eq_true] at e5
            simp only [Option.some.injEq, Prod.mk.injEq] at h
            obtain ⟨rfl, rfl, rfl, rfl⟩ := h
            exact OpSem.call ho h1 e1 e3.1 rfl e2 (of_decide_eq_true e5.1.1) e5.1.2 hc.1 hc.2.2 e5.2 hc.2.1 e3.2
          · simp at h
      · simp at h
    · simp at h
  · simp at h
theorem evN_sound {tk : Bool} {ck : Option CallK} {o : Oper} {c : Prop} {v : AV} {u : Option (Nat × AV)} (h : evN P tk ck fr H o = some (c, v, u, H1)) (hc : c) : OpSem P o fr H v (upd fr u) H1 := by
  unfold evN at h
  split at h
  · rename_i x e
    simp only [Option.some.injEq, Prod.mk.injEq] at h
    obtain ⟨rfl, rfl, rfl, rfl⟩ := h
    exact OpSem.constV (.inl e)
  · rename_i x e
    simp only [Option.some.injEq, Prod.mk.injEq] at h
    obtain ⟨rfl, rfl, rfl, rfl⟩ := h
    exact OpSem.constV (.inr e)
  · rename_i e; cases tk
    · exact pureM_sound h hc
    · exact takeM_sound (.inl e) h hc
  · rename_i e; cases tk
    · exact pureM_sound h hc
    · exact takeM_sound (.inr e) h hc
  · rename_i e; cases tk
    · exact pureM_sound h hc
    · exact takeXM_sound e h hc
  · rename_i e
    split at h
    · rename_i e1 e2 e3
      rw [Bool.cond_eq_ite] at h
      split at h
      · exact appendHM_sound e e1 e2 e3 h hc
      · exact appendM_sound e e1 e2 e3 h hc
    · rename_i e1 e2 e3; exact copyM_sound e e1 e2 e3 h hc
    · exact pureM_sound h hc
    · rename_i e1
      split at h
      · exact callM_sound e e1 h hc
      · simp at h
    · simp at h
  · rename_i e
    rw [Bool.cond_eq_ite] at h
    split at h
    · exact litHM_sound e h hc
    · exact litM_sound e h hc
  · rename_i e; exact makeM_sound e h hc
  · rename_i e
    split at h
    · rename_i e1
      (try rw [cellsF_eq] at h); rw [litLen_eq, snocL_eq] at h
      simp only [Option.some.injEq, Prod.mk.injEq] at h
      obtain ⟨rfl, rfl, rfl, rfl⟩ := h
      exact OpSem.alloc e e1
    · simp at h
  · rename_i e; exact boxM_sound e h hc
  · rename_i e; exact storeM_sound e h hc
  · rename_i e; exact convM_sound e h hc
  · rename_i e
    unfold buildM at h
    split at h
    · rename_i e1
      simp only [Option.some.injEq, Prod.mk.injEq] at h
      obtain ⟨rfl, rfl, rfl, rfl⟩ := h
      exact OpSem.build e e1
    · simp at h
  · exact pureM_sound h hc

/-- a value said otherwise: what is to be shown of it stands in the condition -/
def isCV (o : Oper) : Bool := match o.op with
  | .call c => match c.callee with
    | .value _ => true
    | _ => false
  | _ => false
def sayR (a : AV) (r : R4) : R4 := match r with
  | some (c, v, u, H1) => some (c ∧ v = a, a, u, H1)
  | none => none
def ovr (ck : Option CallK) (o : Oper) (r : R4) : R4 := match ck with
  | none => r
  | some k => bif isCV o || hMark ck then r else sayR k.res r
/-- a load, its value told -/
def loadK (P : Program) (fr : Fr) (H : Heap) (t : TypeId) (a : Operand) (v : AV) : R4 := match opd P t fr a with
  | .ptr id off => match H[id]? with
    | some blk => match isAggT P t, szT P t with
      | some false, some _ => some (blk[off]? = some v, un v, none, H)
      | some true, some n => some (off + n ≤ blk.length ∧ AV.agg ((blk.drop off).take n) = v, v, none, H)
      | _, _ => none
    | none => none
  | .cptr x => match isAggT P t, szT P t with
    | some false, some _ => some (x.cells[0]? = some v, un v, none, H)
    | some true, some n => some (n ≤ x.cells.length ∧ AV.agg (x.cells.take n) = v, v, none, H)
    | _, _ => none
  | _ => none
def evM (P : Program) (tk : Bool) (ck : Option CallK) (fr : Fr) (H : Heap) (o : Oper) : R4 := match o.op, ck with
  | .load t a, some k => loadK P fr H t a k.res
  | _, _ => ovr ck o (evN P tk ck fr H o)
theorem loadK_sound {o : Oper} {t : TypeId} {a : Operand} {v0 : AV} {c : Prop} {v : AV} {u : Option (Nat × AV)} (ho : o.op = .load t a) (h : loadK P fr H t a v0 = some (c, v, u, H1)) (hc : c) : OpSem P o fr H v (upd fr u) H1 := by
  have key : ∀ v, loadE P H t (opd P t fr a) = some v → OpSem P o fr H v fr H := fun v hv => OpSem.pure (c := True) (by unfold evP; rw [ho]; simp only [tr, hv]) trivial
  unfold loadK at h
  split at h
  · rename_i id off e1
    split at h
    · rename_i blk e2
      split at h
      · rename_i n e3 e4
        simp only [Option.some.injEq, Prod.mk.injEq] at h
        obtain ⟨rfl, rfl, rfl, rfl⟩ := h
        refine key _ ?_
        rw [e1]
        simp only [loadE, e2, Option.bind_some, varE, e3, e4, hc, Option.map_some]
      · rename_i n e3 e4
        simp only [Option.some.injEq, Prod.mk.injEq] at h
        obtain ⟨rfl, rfl, rfl, rfl⟩ := h
        refine key _ ?_
        rw [e1]
        simp only [loadE, e2, Option.bind_some, varE, e3, e4]
        rw [Nat.ble_eq_true_of_le hc.1, ← hc.2]; rfl
      · simp at h
    · simp at h
  · rename_i x e1
    split at h
    · rename_i n e3 e4
      simp only [Option.some.injEq, Prod.mk.injEq] at h
      obtain ⟨rfl, rfl, rfl, rfl⟩ := h
      refine key _ ?_
      rw [e1]
      simp only [loadE, varE, e3, e4, hc, Option.map_some]
    · rename_i n e3 e4
      simp only [Option.some.injEq, Prod.mk.injEq] at h
      obtain ⟨rfl, rfl, rfl, rfl⟩ := h
      refine key _ ?_
      rw [e1]
      simp only [loadE, varE, e3, e4]
      rw [Nat.ble_eq_true_of_le (by omega), ← hc.2]; rfl
    · simp at h
  · simp at h
theorem loadK_h {t : TypeId} {a : Operand} {v0 : AV} {c : Prop} {v : AV} {u : Option (Nat × AV)} (h : loadK P fr H t a v0 = some (c, v, u, H1)) : u = none ∧ H1 = H := by
  unfold loadK at h
  split at h
  · split at h
    · split at h <;> simp at h
      · exact ⟨h.2.2.1.symm, h.2.2.2.symm⟩
      · exact ⟨h.2.2.1.symm, h.2.2.2.symm⟩
    · simp at h
  · split at h <;> simp at h
    · exact ⟨h.2.2.1.symm, h.2.2.2.symm⟩
    · exact ⟨h.2.2.1.symm, h.2.2.2.symm⟩
  · simp at h
theorem ovr_inv {ck : Option CallK} {o : Oper} {r : R4} {c : Prop} {v : AV} {u : Option (Nat × AV)} (h : ovr ck o r = some (c, v, u, H1)) : ∃ c0 v0, r = some (c0, v0, u, H1) ∧ (c → c0 ∧ v0 = v) := by
  unfold ovr at h
  split at h
  · exact ⟨c, v, h, fun h => ⟨h, rfl⟩⟩
  · rename_i k
    rw [Bool.cond_eq_ite] at h
    split at h
    · exact ⟨c, v, h, fun h => ⟨h, rfl⟩⟩
    · unfold sayR at h
      split at h
      · rename_i c0 v0 u0 H0 
        simp only [Option.some.injEq, Prod.mk.injEq] at h
        obtain ⟨rfl, rfl, rfl, rfl⟩ := h
        exact ⟨c0, v0, rfl, fun h => h⟩
      · simp at h
theorem evM_sound {tk : Bool} {ck : Option CallK} {o : Oper} {c : Prop} {v : AV} {u : Option (Nat × AV)} (h : evM P tk ck fr H o = some (c, v, u, H1)) (hc : c) : OpSem P o fr H v (upd fr u) H1 := by
  unfold evM at h
  split at h
  · rename_i e
    exact loadK_sound e h hc
  · obtain ⟨c0, v0, h0, h1⟩ := ovr_inv h
    obtain ⟨k1, rfl⟩ := h1 hc
    exact evN_sound h0 k1
/-! ### Regions -/
abbrev R3 := Option (Prop × Fr × Heap)
def stepE (P : Program) (n : Nat) (tk : Bool) (ck : Option CallK) (ops : Array Oper) (o : Oper) (fr : Fr) (H : Heap) : R3 :=
  match gOK ops fr o with
  | some true => match evM P tk ck fr H o with
    | some (c, v, none, H1) => match o.dst with
      | some d => bif Nat.blt d n then v.force fun v => some (c, fr.set d v, H1) else none
      | none => some (c, fr, H1)
    | some (c, v, some (t, x), H1) => match o.dst with
      | some d => bif Nat.blt d n then v.force fun v => some (c, (fr.set t x).set d v, H1) else none
      | none => some (c, fr.set t x, H1)
    | none => none
  | some false => match o.dst with
    | some d => bif Nat.blt d n then some (True, fr.set d (.tup []), H) else none
    | none => some (True, fr, H)
  | none => none
def ckOf (K : List (Nat × CallK)) (i : Nat) : Option CallK := match K with
  | [] => none
  | (j, k) :: r => bif Nat.beq i j then some k else ckOf r i
/-- several operations; 'K': the calls; the room never moved where 'nt' says so -/
def evR (P : Program) (n : Nat) (K : List (Nat × CallK)) (nt : List Nat) (ops : Array Oper) : List Nat → Fr → Heap → R3
  | [], fr, H => some (True, fr, H)
  | i :: is, fr, H => match ops[i]? with
    | some o => match stepE P n (!(nt.contains i)) (ckOf K i) ops o fr H with
      | some (c, fr1, H1) => match evR P n K nt ops is fr1 H1 with
        | some (c2, fr2, H2) => some (c ∧ c2, fr2, H2)
        | none => none
      | none => none
    | none => none
theorem Runs.stepE {i : Nat} {rest : List Nat} {o : Oper} {tk : Bool} {ck : Option CallK} {c : Prop} (ho : ops[i]? = some o) (h : stepE P n tk ck ops o fr H = some (c, fr1, H1)) (hc : c)
    (hk : Runs P f n k0 (.inRegion ops rest :: S) fr1 H1 res H') : Runs P f n k0 (.inRegion ops (i :: rest) :: S) fr H res H' := by
  unfold Am.stepE at h
  split at h
  · rename_i hg
    split at h
    case h_3 => simp at h
    all_goals
      rename_i he
      split at h
      · rename_i d hd
        rw [Bool.cond_eq_ite] at h
        split at h
        · rename_i hlt
          rw [AV.force_eq] at h
          simp only [Option.some.injEq, Prod.mk.injEq] at h
          obtain ⟨rfl, rfl, rfl⟩ := h
          refine Runs.op ho hg (by rw [hd]; exact hlt) (evM_sound he hc) ?_
          rw [hd]; exact hk
        · simp at h
      · rename_i hd
        simp only [Option.some.injEq, Prod.mk.injEq] at h
        obtain ⟨rfl, rfl, rfl⟩ := h
        refine Runs.op ho hg (by rw [hd]) (evM_sound he hc) ?_
        rw [hd]; exact hk
  · rename_i hg
    split at h
    · rename_i d hd
      rw [Bool.cond_eq_ite] at h
      split at h
      · rename_i hlt
        simp only [Option.some.injEq, Prod.mk.injEq] at h
        obtain ⟨rfl, rfl, rfl⟩ := h
        refine Runs.opSkip ho hg (by rw [hd]; exact hlt) ?_
        rw [hd]; exact hk
      · simp at h
    · rename_i hd
      simp only [Option.some.injEq, Prod.mk.injEq] at h
      obtain ⟨rfl, rfl, rfl⟩ := h
      refine Runs.opSkip ho hg (by rw [hd]) ?_
      rw [hd]; exact hk
  · simp at h
theorem Runs.evR {K : List (Nat × CallK)} {nt : List Nat} : ∀ {is rest : List Nat} {fr : Fr} {H : Heap} {c : Prop} {fr1 : Fr} {H1 : Heap}, evR P n K nt ops is fr H = some (c, fr1, H1) → c →
    Runs P f n k0 (.inRegion ops rest :: S) fr1 H1 res H' → Runs P f n k0 (.inRegion ops (is ++ rest) :: S) fr H res H'
  | [], rest, fr, H, c, fr1, H1, h, hc, hk => by
    simp only [Am.evR, Option.some.injEq, Prod.mk.injEq] at h
    obtain ⟨rfl, rfl, rfl⟩ := h
    exact hk
  | i :: is, rest, fr, H, c, fr1, H1, h, hc, hk => by
    unfold Am.evR at h
    split at h
    · rename_i o ho
      split at h
      · rename_i c1 fr2 H2 h1
        split at h
        · rename_i c2 fr3 H3 h2
          simp only [Option.some.injEq, Prod.mk.injEq] at h
          obtain ⟨rfl, rfl, rfl⟩ := h
          exact Runs.stepE ho h1 hc.1 (Runs.evR h2 hc.2 hk)
        · simp at h
      · simp at h
    · simp at h
/-- a whole region that is not drawn -/
theorem Runs.reg {id : Nat} (K : List (Nat × CallK)) (nt : List Nat) {c : Prop} (h : Am.evR P n K nt ops (List.range ops.size) fr H = some (c, fr1, H1)) (hc : c) (hk : Runs P f n k0 S fr1 H1 res H') :
    Runs P f n k0 (.code (.region id ops false) :: S) fr H res H' := by
  refine Runs.region ?_
  have := Runs.evR (rest := []) h hc (Runs.regionEnd hk)
  rwa [List.append_nil] at this
/-- what is left of a region -/
theorem Runs.rest {is : List Nat} (K : List (Nat × CallK)) (nt : List Nat) {c : Prop} (h : Am.evR P n K nt ops is fr H = some (c, fr1, H1)) (hc : c) (hk : Runs P f n k0 S fr1 H1 res H') :
    Runs P f n k0 (.inRegion ops is :: S) fr H res H' := by
  have := Runs.evR (rest := []) h hc (Runs.regionEnd hk)
  rwa [List.append_nil] at this
/-- the next 'm' operations -/
theorem Runs.restTo {is : List Nat} (m : Nat) (K : List (Nat × CallK)) (nt : List Nat) {c : Prop} (h : Am.evR P n K nt ops (is.take m) fr H = some (c, fr1, H1)) (hc : c) (hk : Runs P f n k0 (.inRegion ops (is.drop m) :: S) fr1 H1 res H') :
    Runs P f n k0 (.inRegion ops is :: S) fr H res H' := by
  have := Runs.evR h hc hk
  rwa [List.take_append_drop] at this
/-- the frame said anew: some slots, the others unknown -/
def frL (l : List (Nat × AV)) : Fr := fun i => match l with
  | [] => .bad
  | (j, v) :: r => bif Nat.beq i j then v else frL r i
def noTup : AV → Bool
  | .tup _ => false
  | _ => true
theorem SpV_noTup {G : Gh} {t : Nat → Own} {a : AV} {v : Value} (h : noTup a = true) : SpV G t a v = Sp G (t 0) a v := by
  cases a <;> first | rfl | simp [noTup] at h
/-- the same, or it says no more -/
def Imq (a b : AV) : Prop := a = b ∨ (Imp a b ∧ noTup a = true ∧ noTup b = true)
def agree (fr : Fr) : List (Nat × AV) → Prop
  | [] => True
  | (j, v) :: r => Imq (fr j) v ∧ agree fr r
theorem frL_agree {fr : Fr} : ∀ {l : List (Nat × AV)}, agree fr l → ∀ i, frL l i = .bad ∨ Imq (fr i) (frL l i)
  | [], _, i => .inl (by unfold frL; rfl)
  | (j, v) :: r, h, i => by
    unfold frL
    cases hb : Nat.beq i j with
    | true => have := Nat.eq_of_beq_eq_true hb; subst this; exact .inr h.1
    | false => exact frL_agree h.2 i
theorem Runs.frame (l : List (Nat × AV)) (h : agree fr l) (hk : Runs P f n k0 S (frL l) H res H') : Runs P f n k0 S fr H res H' := by
  refine Runs.ghost (fun w G ρ tmps hkk h4 => ⟨G, ρ, Trans.refl _ _, ⟨h4.size, fun i => ?_, h4.br, h4.wi⟩, hkk, rfl⟩) hk
  rcases frL_agree h i with e | e | ⟨e1, e2, e3⟩
  · rw [e]; exact ⟨.bad .., by simp [SpV, Sp]⟩
  · rw [← e]; exact h4.fr i
  · obtain ⟨k1, k2⟩ := h4.fr i
    rw [SpV_noTup e2] at k2
    obtain ⟨k3, k4⟩ := e1 G w ρ _ k1
    exact ⟨k3, by rw [SpV_noTup e3]; exact k4 _ k2⟩
theorem Runs.heap {H2 : Heap} (h : H = H2) (hk : Runs P f n k0 S fr H2 res H') : Runs P f n k0 S fr H res H' := by rw [h]; exact hk
/-- a loop by an invariant on named slots -/
theorem Runs.loopF {c : Code} {σ : Type} (I : σ → Prop) (L : σ → List (Nat × AV)) (Hp : σ → Heap) (μ : σ → Nat) (s : σ) (h0 : I s) (hf : agree fr (L s)) (hh : H = Hp s)
    (round : ∀ s, I s → (∀ s' fr' H1, I s' → μ s' < μ s → agree fr' (L s') → H1 = Hp s' → Runs P f n k0 (.inLoop c :: S) fr' H1 res H') → Runs P f n k0 (.code c :: .inLoop c :: S) (frL (L s)) (Hp s) res H') :
    Runs P f n k0 (.code (.loop c) :: S) fr H res H' := by
  refine Runs.loopI (fun s fr H => I s ∧ agree fr (L s) ∧ H = Hp s) μ (fun s fr H hp ih => ?_) s ⟨h0, hf, hh⟩
  obtain ⟨h1, h2, rfl⟩ := hp
  exact Runs.frame _ h2 (round s h1 fun s' fr' H1 k1 k2 k3 k4 => ih s' fr' H1 k2 ⟨k1, k3, k4⟩)
end Go.Am
