/- The abstract machine: returns; what is forgotten, frozen, told otherwise. -/
import Derived.Test.YtnohmijdpmelpaaGreatAm20
set_option linter.unusedSectionVars false
set_option linter.unusedVariables false
set_option linter.unusedSimpArgs false
namespace Go.Am
open Go
variable [Tab]
variable {P : Program} {G G' : Gh} {w w' : World} {ρ : List Nat} {n k0 : Nat} {fr : Fr} {H : Heap} {tmps : Array Value} {f : FuncId} {S : List Item} {res : AV} {H' : Heap}

/-! ### 1. Returns -/
def resE1 (P : Program) (fr : Fr) (H : Heap) : ResultVar → Option AV
  | .tmp t => some (un1 (fr t))
  | .cell a t => loadE P H t (fr a)
def resList (P : Program) (fr : Fr) (H : Heap) : List ResultVar → Option (List AV)
  | [] => some []
  | r :: rs => match resE1 P fr H r, resList P fr H rs with
    | some x, some l => some (x :: l)
    | _, _ => none
theorem res1_run {a : Act} {r : ResultVar} {x : AV} (h : resE1 P fr H r = some x) (hf : FR G w ρ fr a.tmps) (hb : BR G w ρ H) :
    ∃ v, (match r with | .tmp t => pure (a.tmps.getD t undef) | .cell p t => do loadVar t (← asAddr (a.tmps.getD p undef)) : Sem Value).run P w = .ok v w ∧ VR G w ρ x v := by
  cases r with
  | tmp t => simp only [resE1, Option.some.injEq] at h; subst h; exact ⟨_, rfl, (hf t).1.un1⟩
  | cell p t =>
    simp only [resE1] at h
    obtain ⟨v, h1, h2⟩ := load_sound (P := P) h hb (hf p).1
    refine ⟨v, ?_, h2⟩
    have hv := (hf p).1
    unfold loadE at h
    split at h
    · rename_i e; rw [e] at hv
      obtain ⟨b, o, vs, e2, _⟩ := hv.cptr_inv
      show (do loadVar t (← asAddr (a.tmps.getD p undef)) : Sem Value).run P w = _
      rw [e2] at h1 ⊢
      simpa [Instr.loadAt, Instr.sureAddr, asAddr] using h1
    · rename_i e; rw [e] at hv
      obtain ⟨b, _, e2⟩ := hv.ptr_inv
      show (do loadVar t (← asAddr (a.tmps.getD p undef)) : Sem Value).run P w = _
      rw [e2] at h1 ⊢
      simpa [Instr.loadAt, Instr.sureAddr, asAddr] using h1
    · simp at h
theorem resList_run {a : Act} (hf : FR G w ρ fr a.tmps) (hb : BR G w ρ H) : ∀ {rs : List ResultVar} {xs : List AV}, resList P fr H rs = some xs →
    ∃ vs : List Value, (rs.mapM (m := Sem) fun r => match r with | .tmp t => pure (a.tmps.getD t undef) | .cell p t => do loadVar t (← asAddr (a.tmps.getD p undef))).run P w = .ok vs w ∧ VRs G w ρ xs vs
  | [], xs, h => by simp [resList] at h; subst h; exact ⟨[], rfl, rfl, fun q c v h => by simp at h⟩
  | r :: rs, xs, h => by
    unfold resList at h
    split at h
    · rename_i x l h1 h2
      simp only [Option.some.injEq] at h; subst h
      obtain ⟨v, k1, k2⟩ := res1_run h1 hf hb
      obtain ⟨vs, k3, k4⟩ := resList_run hf hb h2
      refine ⟨v :: vs, ?_, by simp [k4.1], fun q c v' e1 e2 => ?_⟩
      · rw [List.mapM_cons, Sem.run_bind, k1, Result.andThen_ok, Sem.run_bind, k3]; rfl
      · cases q with
        | zero => simp at e1 e2; subst e1; subst e2; exact k2
        | succ q => exact k4.2 q c v' (by simpa using e1) (by simpa using e2)
    · simp at h
def tupE : List AV → AV
  | [x] => x
  | xs => .tup xs
theorem results_run {a : Act} {fn : Func} {xs : List AV} (h : resList P fr H fn.results.toList = some xs) (hf : FR G w ρ fr a.tmps) (hb : BR G w ρ H) :
    ∃ v, (results fn a.tmps).run P w = .ok v w ∧ VR G w ρ (tupE xs) v := by
  obtain ⟨vs, h1, h2⟩ := resList_run hf hb h
  have hrun : (fn.results.mapM (m := Sem) fun r => match r with | .tmp t => pure (a.tmps.getD t undef) | .cell p t => do loadVar t (← asAddr (a.tmps.getD p undef))).run P w = .ok vs.toArray w := by
    rw [← Array.toArray_toList (xs := fn.results), List.mapM_toArray, Sem.run_map, h1]
    rfl
  refine ⟨if h : vs.toArray.size = 1 then vs.toArray[0] else .tuple vs.toArray, ?_, ?_⟩
  · unfold results
    rw [Sem.run_bind]
    refine Eq.trans (congrArg (fun r => Result.andThen r _) (?_ : _ = Result.ok vs.toArray w)) rfl
    exact hrun
  · have hl := h2.1
    clear h h1 hrun
    match xs, vs, hl, h2 with
    | [x], [v], _, h2 => exact h2.2 0 x v rfl rfl
    | [], [], _, h2 => exact .tup _ _ _ h2.1 h2.2
    | x :: y :: l, v :: u :: l2, hl, h2 => exact .tup _ _ _ h2.1 h2.2
/-- a single result, its room with it; the others' owners are gone -/
def retT (t : Option Nat) : Own → Own
  | .slot i c => if some i = t then .res c else .free
  | .res _ => .free
  | x => x
theorem retT_re (t : Option Nat) : ReTag (retT t) := by
  constructor
  · intro x; cases x <;> simp [retT]; split <;> simp
  · intro x; cases x <;> simp [retT]; split <;> simp
  · rfl
  · intro x; cases x <;> simp [retT, Own.mine]
theorem leave_ret {b : Frame} {a : Act} {S : List Item} {cs : List Frame} {fn : Func} {v : Value} (hk : b.kind = .normal) (hd : a.defers = []) (hb : b.fn = f) (hf : P.funcs[f]? = some fn) (hr : (results fn a.tmps).run P w = .ok v w) :
    ∃ frm, Steps P (lone (b.at a (.code .ret :: S)) cs w) (lone frm cs w) ∧ frm.fn = f ∧ frm.leaving P w (.returned v) :=
  ⟨_, .one step_ret, hb, rfl, hd, hk, fn, by show P.funcs[b.fn]? = some fn; rw [hb]; exact hf, hr⟩
theorem Runs.ret {fn : Func} {xs : List AV} (hf : P.funcs[f]? = some fn) (h : resList P fr H fn.results.toList = some xs) (hr : tupE xs = res) (hn : nr res = true) : Runs P f n k0 (.code .ret :: S) fr H res H := by
  intro b a w G ρ h1 h2 h3 hk h4 cs
  obtain ⟨v, e1, e2⟩ := results_run h h4.fr h4.br
  rw [hr] at e2
  obtain ⟨frm, s1, s2, s3⟩ := leave_ret (S := S) (cs := cs) h2 h3 h1 hf e1
  exact ⟨v, w, reG (retT none) G, ρ, frm, s1, s2, s3, (retT_re none).trans .., (retT_re none).wi h4.wi, rfl, (retT_re none).br (fun _ => rfl) (fun _ _ => rfl) h4.br, e2.keep ((retT_re none).keeps _ _), SpV_nr hn⟩
/-- the one result keeps its room -/
theorem Runs.retOwn {fn : Func} {t : Nat} (hf : P.funcs[f]? = some fn) (h : fn.results.toList = [.tmp t]) (hr : fr t = res) : Runs P f n k0 (.code .ret :: S) fr H res H := by
  intro b a w G ρ h1 h2 h3 hk h4 cs
  have e1 : (results fn a.tmps).run P w = .ok (a.tmps.getD t undef) w := by
    have e : fn.results = #[.tmp t] := by rw [← Array.toArray_toList (xs := fn.results), h]
    unfold results
    rw [e]
    simp
  obtain ⟨frm, s1, s2, s3⟩ := leave_ret (S := S) (cs := cs) h2 h3 h1 hf e1
  have ht := h4.fr t
  rw [hr] at ht
  exact ⟨_, w, reG (retT (some t)) G, ρ, frm, s1, s2, s3, (retT_re _).trans .., (retT_re _).wi h4.wi, rfl, (retT_re _).br (fun _ => rfl) (fun _ _ => rfl) h4.br, ht.1.keep ((retT_re _).keeps _ _), ht.2.map fun c b o e => by unfold reG; rw [e]; simp [retT]⟩

/-! ### 2. Ghost steps -/
theorem Runs.ghost {fr2 : Fr} {H2 : Heap} (h : ∀ (w : World) (G : Gh) (ρ : List Nat) (tmps : Array Value), k0 ≤ ρ.length → Inv G w ρ n fr H tmps → ∃ G' ρ', Trans G w G' w ∧ Inv G' w ρ' n fr2 H2 tmps ∧ k0 ≤ ρ'.length ∧ ρ'.take k0 = ρ.take k0)
    (hk : Runs P f n k0 S fr2 H2 res H') : Runs P f n k0 S fr H res H' := by
  intro b a w G ρ h1 h2 h3 hkk h4 cs
  obtain ⟨G', ρ', e1, e2, e3, e4⟩ := h w G ρ a.tmps hkk h4
  obtain ⟨v, w', G2, ρ2, frm, s1, s2, s3, t1, t2, t3, t4⟩ := hk b a w G' ρ' h1 h2 h3 e3 e2 cs
  exact ⟨v, w', G2, ρ2, frm, s1, s2, s3, e1.trans t1, t2, t3.trans e4, t4⟩
/-- 'b' says no more than 'a' -/
def Imp (a b : AV) : Prop := ∀ (G : Gh) (w : World) (ρ : List Nat) (v : Value), VR G w ρ a v → VR G w ρ b v ∧ ∀ T, Sp G T a v → Sp G T b v
theorem Runs.conv (s : Nat) {a : AV} (hi : Imp (fr s) a) (ha : nr1 a = true ∨ ∀ vs, fr s ≠ .tup vs) (hb : ∀ vs, a ≠ .tup vs) (hk : Runs P f n k0 S (fr.set s a) H res H') : Runs P f n k0 S fr H res H' := by
  refine Runs.ghost (fun w G ρ tmps hkk h4 => ⟨G, ρ, Trans.refl _ _, ⟨h4.size, fun i => ?_, h4.br, h4.wi⟩, hkk, rfl⟩) hk
  unfold Fr.set
  cases hq : Nat.beq i s with
  | true =>
    have := Nat.eq_of_beq_eq_true hq
    subst this
    obtain ⟨e1, e2⟩ := hi G w ρ _ (h4.fr i).1
    refine ⟨e1, SpV_of_Sp ?_ hb⟩
    rcases ha with ha | ha
    · exact Sp_nr1 ha
    · have := (h4.fr i).2
      refine e2 _ ?_
      revert this ha
      cases fr i <;> first | exact fun _ h => h | exact fun h => absurd rfl (h _)
  | false => exact h4.fr i
theorem Imp.refl (a : AV) : Imp a a := fun _ _ _ _ h => ⟨h, fun _ h => h⟩
theorem Imp.sl {sz m : Nat} {el el' : Nat → AV} {o : Bool} (h : ∀ i, i < m → el' i = el i) : Imp (.sl sz m el o) (.sl sz m el' o) := fun G w ρ v hv => ⟨hv.sl_congr h, fun T hs => by
  cases o with
  | false => simp [Sp]
  | true =>
    cases v with
    | slice a l c => cases a <;> simp_all [Sp]
    | _ => simp [Sp]⟩
theorem Imp.slEq {sz m m' : Nat} {el el' : Nat → AV} {o : Bool} (hm : m = m') (h : ∀ i, i < m → el' i = el i) : Imp (.sl sz m el o) (.sl sz m' el' o) := by subst hm; exact Imp.sl h
theorem Imp.slB {m : Nat} {el : Nat → AV} {o : Bool} {s : List UInt8} (hm : m = s.length) (h : ∀ i, i < s.length → byteEl s i = el i) : Imp (.sl 1 m el o) (.bs s o) := fun G w ρ v hv => by
  subst hm
  refine ⟨.bs _ _ _ _ ((hv.pf rfl []).sl_congr h), fun T hs => ?_⟩
  cases o with
  | false => simp [Sp]
  | true => exact Sp_bs_sl.2 hs
theorem Imp.un1 (a : AV) : Imp a (un1 a) := fun G w ρ v hv => ⟨hv.un1, fun T _ => Sp_un1 ..⟩
/-- blocks that nobody needs any more -/
def okp (m : Nat) : AV → Bool
  | .ptr id _ => Nat.blt id m
  | .hs id _ _ _ => Nat.blt id m
  | .iface _ v => okp m v
  | .fn _ cap => cap.all fun c => match c with | .ptr id _ => Nat.blt id m | .hs id _ _ _ => Nat.blt id m | x => pf x
  | .agg cs => cs.all fun c => match c with | .ptr id _ => Nat.blt id m | .hs id _ _ _ => Nat.blt id m | x => pf x
  | .tup cs => cs.all fun c => match c with | .ptr id _ => Nat.blt id m | .hs id _ _ _ => Nat.blt id m | x => pfA x
  | _ => true
def san (m : Nat) (a : AV) : AV := bif okp m a then a else .bad
theorem take_at {l : List Nat} {m id b : Nat} (h : l[id]? = some b) (hm : Nat.blt id m = true) : (l.take m)[id]? = some b := by
  rw [List.getElem?_take, if_pos (show id < m from Nat.le_of_ble_eq_true hm)]; exact h
theorem VR.okp {m : Nat} {a : AV} {v : Value} (h : VR G w ρ a v) : okp m a = true → VR G w (ρ.take m) a v := by
  induction h with
  | int => exact fun _ => .int ..
  | bool => exact fun _ => .bool ..
  | str => exact fun _ => .str ..
  | sl ρ sz n el own base cap vs hn hb hsz hc hv ih => exact fun _ => .sl _ _ _ _ _ _ _ vs hn hb hsz hc hv
  | bs ρ s own v h ih => exact fun _ => .bs _ _ _ _ h
  | hs ρ id off len cap b h => exact fun k => .hs _ _ _ _ _ _ (take_at h k)
  | ptr ρ id off b h => exact fun k => .ptr _ _ _ _ (take_at h k)
  | nilp => exact fun _ => .nilp _
  | cptr ρ v b o vs hc hv ih => exact fun _ => .cptr _ _ _ _ vs hc hv
  | fn ρ f cap vs hl hv ih =>
    intro k
    simp only [Am.okp, List.all_eq_true] at k
    refine .fn _ _ _ vs hl fun q c v h1 h2 => ?_
    have hp := k c (List.mem_of_getElem? h1)
    have hh := hv q c v h1 h2
    cases c with
    | ptr id off => obtain ⟨b, hb, rfl⟩ := hh.ptr_inv; exact .ptr _ _ _ _ (take_at hb hp)
    | hs id off l c => obtain ⟨b, hb, rfl⟩ := hh.hs_inv; exact .hs _ _ _ _ _ _ (take_at hb hp)
    | _ => exact hh.pf hp _
  | nilfn => exact fun _ => .nilfn _
  | iface ρ t v x h ih => exact fun k => .iface _ _ _ _ (ih k)
  | nili => exact fun _ => .nili _
  | agg ρ cs vs hl hv ih =>
    intro k
    simp only [Am.okp, List.all_eq_true] at k
    refine .agg _ _ vs hl fun q c v h1 h2 => ?_
    have hp := k c (List.mem_of_getElem? h1)
    have hh := hv q c v h1 h2
    cases c with
    | ptr id off => obtain ⟨b, hb, rfl⟩ := hh.ptr_inv; exact .ptr _ _ _ _ (take_at hb hp)
    | hs id off l c => obtain ⟨b, hb, rfl⟩ := hh.hs_inv; exact .hs _ _ _ _ _ _ (take_at hb hp)
    | _ => exact hh.pf hp _
  | tup ρ cs vs hl hv ih =>
    intro k
    simp only [Am.okp, List.all_eq_true] at k
    refine .tup _ _ vs hl fun q c v h1 h2 => ?_
    have hp := k c (List.mem_of_getElem? h1)
    have hh := hv q c v h1 h2
    cases c with
    | ptr id off => obtain ⟨b, hb, rfl⟩ := hh.ptr_inv; exact .ptr _ _ _ _ (take_at hb hp)
    | hs id off l c => obtain ⟨b, hb, rfl⟩ := hh.hs_inv; exact .hs _ _ _ _ _ _ (take_at hb hp)
    | _ => exact hh.pfA hp _
  | bad => exact fun _ => .bad _ _
theorem Runs.drop (m : Nat) (hm : k0 ≤ m) (hp : (H.take m).all (·.all fun c => okp m c) = true) (hk : Runs P f n k0 S (fun i => san m (fr i)) (H.take m) res H') : Runs P f n k0 S fr H res H' := by
  refine Runs.ghost (fun w G ρ tmps hkk h4 => ⟨G, ρ.take m, Trans.refl _ _, ⟨h4.size, fun i => ?_, ⟨by simp [h4.br.len], fun id b blk j c h1 h2 h3 => ?_⟩, h4.wi⟩, by simp; omega, by rw [List.take_take, Nat.min_eq_left hm]⟩) hk
  · show VR G w (ρ.take m) (san m (fr i)) _ ∧ SpV G _ (san m (fr i)) _
    unfold san
    cases hq : okp m (fr i) with
    | true => exact ⟨(h4.fr i).1.okp hq, (h4.fr i).2⟩
    | false => exact ⟨.bad .., by simp [SpV, Sp]⟩
  · rw [List.getElem?_take] at h1 h2
    split at h1
    · rename_i hid
      rw [if_pos hid] at h2
      obtain ⟨k1, v, k2, k3, k4⟩ := h4.br.cell id b blk j c h1 h2 h3
      have : okp m c = true := by
        simp only [List.all_eq_true] at hp
        refine hp blk ?_ c (List.mem_of_getElem? h3)
        exact List.mem_of_getElem? (by rw [List.getElem?_take, if_pos hid]; exact h2)
      exact ⟨k1, v, k2, k3.okp this, k4⟩
    · simp at h1
/-- a block becomes a slice that nobody writes any more -/
def frzT (id off lo hi s : Nat) (b : Nat) : Nat → Nat → Own → Own := fun b' o' t => if t = .cell id then (if b' = b ∧ off ≤ o' ∧ o' < lo then .frz else if b' = b ∧ lo ≤ o' ∧ o' < hi then .slot s 0 else .free) else match t with
  | .spare i j => if i = id then .free else .spare i j
  | .slot i c => if i = s then .free else .slot i c
  | t => t
theorem Runs.freeze (s : Nat) {id off m cp sz : Nat} {ag : Bool} {blk : List AV} (hs : fr s = .hs id off m cp) (hB : H[id]? = some blk) (hid : k0 ≤ id) (ha : ag = true ∨ sz = 1) (hcp : m ≤ cp) (hl : off + cp * sz ≤ blk.length) (hp : ((blk.drop off).take (m * sz)).all pf = true)
    (hk : Runs P f n k0 S (fr.set s (.sl sz m (elOf ag sz ((blk.drop off).take (m * sz))) true)) (H.set id []) res H') : Runs P f n k0 S fr H res H' := by
  refine Runs.ghost (fun w G ρ tmps hkk h4 => ?_) hk
  have hv := (h4.fr s).1
  rw [hs] at hv
  obtain ⟨b, hr, he⟩ := hv.hs_inv
  have hmc : m * sz ≤ cp * sz := Nat.mul_le_mul_right _ hcp
  have hcell : ∀ q, q < cp * sz → ∃ v, G b (off + q) = .cell id ∧ w.cell? (mkA b (off + q)) = some v ∧ VR G w ρ (blk.getD (off + q) .bad) v := by
    intro q hq
    have hq2 : off + q < blk.length := by omega
    obtain ⟨k1, v, k2, k3, _⟩ := h4.br.cell id b blk (off + q) blk[off + q] hr hB (List.getElem?_eq_getElem hq2)
    exact ⟨v, k1, k2, by simpa [List.getD_eq_getElem?_getD, List.getElem?_eq_getElem hq2] using k3⟩
  let G' : Gh := fun b' o' => frzT id off (off + m * sz) (off + cp * sz) s b b' o' (G b' o')
  have hsub : Sub G G' := by
    constructor
    · intro b o h; simp [G', frzT, h]
    · intro b o h; simp [G', frzT, h]
    · intro b o h; simp [G', frzT, h]
    · intro b o h
      simp only [G', frzT] at h
      split at h
      · rename_i e; rw [e]; rfl
      · generalize G b o = t at h
        cases t <;> simp_all [Own.mine]
    · intro b o h
      simp only [G', frzT] at h
      split at h
      · rename_i e; rw [e]; exact .inr rfl
      · generalize G b o = t at h
        cases t <;> simp_all [Own.mine]
  have hkp := hsub.keeps w
  have hfz : ∀ q, q < m * sz → G' b (off + q) = .frz := fun q hq => by
    obtain ⟨v, k1, _⟩ := hcell q (by omega)
    simp only [G', frzT, k1, if_true]
    rw [if_pos ⟨trivial, by omega, by omega⟩]
  refine ⟨G', ρ, hsub.trans fun b o e => (h4.wi.own b o e).2, ⟨h4.size, fun i => ?_, ⟨by rw [List.length_set]; exact h4.br.len, fun id' b' blk' j c h1 h2 h3 => ?_⟩, hsub.wi h4.wi⟩, hkk, rfl⟩
  · unfold Fr.set
    cases hq : Nat.beq i s with
    | true =>
      have := Nat.eq_of_beq_eq_true hq
      subst this
      rw [he]
      simp only [cond_true]
      let cs := (blk.drop off).take (m * sz)
      have hcsl : cs.length = m * sz := by simp [cs]; omega
      have hat : ∀ q, q < m * sz → cs[q]? = some (blk.getD (off + q) .bad) := by
        intro q hq
        simp only [cs]
        rw [List.getElem?_take, if_pos hq, List.getElem?_drop]
        simp [List.getD_eq_getElem?_getD, List.getElem?_eq_getElem (show off + q < blk.length by omega)]
      obtain ⟨vs, hvs, hvc⟩ := list_of_fun (G := G) (w := w) (ρ := ρ) (cs := cs) (p := fun q v => w.cell? (mkA b (off + q)) = some v) (fun q c hc => by
        have hq : q < m * sz := by rw [← hcsl]; exact (List.getElem?_eq_some_iff.1 hc).1
        have hq' : q < cp * sz := Nat.lt_of_lt_of_le hq hmc
        obtain ⟨v, _, k2, k3⟩ := hcell q hq'
        rw [hat q hq] at hc
        simp at hc
        rw [← hc]
        exact ⟨v, k2, by simpa using k3⟩)
      obtain ⟨_, r2, r3⟩ := rowOf (m := m) (ag := ag) hvs hp hcsl ha
      refine ⟨.sl _ _ _ _ _ (some (b, off)) cp (fun q => vs.getD q undef) hcp (by simp) r2 (fun b' o' e q hq => ?_) (fun i j c hi hc => ?_), SpV_of_Sp ?_ (by simp)⟩
      · simp only [Option.some.injEq, Prod.mk.injEq] at e
        obtain ⟨rfl, rfl⟩ := e
        have hql : q < vs.length := by rw [hvs.1, hcsl]; exact hq
        refine ⟨hfz q hq, ?_⟩
        have := hvc q vs[q] (List.getElem?_eq_getElem hql)
        simpa [List.getD_eq_getElem?_getD, List.getElem?_eq_getElem hql] using this
      · have hj : j < sz := by rw [← r2 i hi]; exact (List.getElem?_eq_some_iff.1 hc).1
        have hq : i * sz + j < vs.length := by
          rw [hvs.1, hcsl]
          have : (i + 1) * sz ≤ m * sz := Nat.mul_le_mul_right _ hi
          rw [Nat.succ_mul] at this; omega
        have := (r3 i j c vs[i * sz + j] hi hc (List.getElem?_eq_getElem hq)).keep hkp
        simpa [List.getD_eq_getElem?_getD, List.getElem?_eq_getElem hq] using this
      · intro _ q h1 h2
        obtain ⟨v, k1, _⟩ := hcell q h2
        show G' b (off + q) = _
        simp only [G', frzT, k1, if_true]
        have h1' : m * sz ≤ q := h1
        rw [if_neg (by omega), if_pos ⟨trivial, by omega, by omega⟩]
    | false =>
      have hne : i ≠ s := fun e => by rw [e, Nat.beq_refl] at hq; cases hq
      exact ⟨(h4.fr i).1.keep hkp, (h4.fr i).2.map fun c b o e => by simp [G', frzT, e, hne]⟩
  · rw [List.getElem?_set] at h2
    split at h2
    · split at h2
      · simp at h2; subst h2; simp at h3
      · simp at h2
    · rename_i hne
      obtain ⟨k1, v, k2, k3, k4⟩ := h4.br.cell id' b' blk' j c h1 h2 h3
      have hne2 : id' ≠ id := fun e => hne e.symm
      exact ⟨by simp [G', frzT, k1, hne2], v, k2, k3.keep hkp, k4.map fun b o e => by simp [G', frzT, e, hne2]⟩
/-- what is appended to a block that has room lies in the block -/
def srcS (x : AV) : Option (Nat × Nat × (Nat → AV)) :=
  match x with
  | .bs s _ => some (1, s.length, byteEl s)
  | .sl sz m el _ => some (sz, m, el)
  | _ => none
theorem OpSem.appendHs {o : Oper} {tt t2 e by_ sz t id off len cap m : Nat} {x : Operand} {sx : AV} {el : Nat → AV} {blk : List AV} (ho : o.op = .call { callee := .builtin .append, args := #[.tmp t, x], argTypes := #[tt, t2] })
    (ht : slT P tt = some (e, sz, by_)) (h2 : isSS P t2 = true) (hD : fr t = .hs id off len cap) (hX : opd P t2 fr x = sx) (hS : srcS sx = some (sz, m, el)) (hB : H[id]? = some blk) (hcap : len + m ≤ cap) (hl : off + cap * sz ≤ blk.length) (hc : ∀ i, i < m → (el i).cells.all isCell = true) :
    OpSem P o fr H (.hs id off (len + m) cap) fr (H.set id (putCells blk (off + len * sz) ((cpy m el).map un1))) := by
  intro b a w G ρ n ops i rest k' cs hoi hw hi
  obtain ⟨hu, inf, zs, h3, h4, rfl, rfl⟩ := slT_some ht
  have hd := (hi.fr t).1
  rw [hD] at hd
  obtain ⟨b', hr, hde⟩ := hd.hs_inv
  have hx := VR.opd (P := P) (t := t2) hi.fr x
  rw [hX] at hx
  have hsl : VR G w [] (.sl inf.size m el true) (a.eval x) ∨ VR G w ρ (.sl inf.size m el false) (a.eval x) ∨ VR G w ρ (.sl inf.size m el true) (a.eval x) ∨ VR G w [] (.sl inf.size m el false) (a.eval x) := by
    unfold srcS at hS
    split at hS <;> simp only [Option.some.injEq, Prod.mk.injEq, reduceCtorEq] at hS <;> obtain ⟨e1, e2, e3⟩ := hS
    · rename_i s o2
      subst e3; subst e2
      have := hx.bs_inv
      rw [← e1]
      cases o2
      · exact .inr (.inr (.inr this))
      · exact .inl this
    · rename_i z m' el' o2
      subst e1; subst e2; subst e3
      cases o2
      · exact .inr (.inl hx)
      · exact .inr (.inr (.inl hx))
  obtain ⟨news, hs⟩ : ∃ news, Src P G w inf.size m el (a.eval x) news := by
    rcases hsl with h | h | h | h <;> exact src_sl (P := P) hi.wi h
  obtain ⟨c1, c2⟩ := cpy_at hs.elsz
  have hvr : VRs G w ρ (cpy m el) news := ⟨by rw [hs.size, c1], fun q c v h1 h2 => by
    have hq := (List.getElem?_eq_some_iff.1 h1).1
    rw [c1] at hq
    have hz : 0 < inf.size := by
      rcases Nat.eq_zero_or_pos inf.size with h0 | h0
      · rw [h0] at hq; simp at hq
      · exact h0
    have hi1 : q / inf.size < m := by rw [Nat.div_lt_iff_lt_mul hz]; exact hq
    have hj := Nat.mod_lt q hz
    have hqe : q / inf.size * inf.size + q % inf.size = q := by rw [Nat.mul_comm]; exact Nat.div_add_mod ..
    have := c2 _ _ hi1 hj
    rw [hqe, h1] at this
    exact (hs.val _ _ c v hi1 this.symm (by rw [hqe]; exact h2)).of_nil⟩
  have hcell : ((cpy m el).map un1).all isCell = true := by
    rw [List.all_eq_true]
    intro y hy
    obtain ⟨z, hz, rfl⟩ := List.mem_map.1 hy
    obtain ⟨x, hx, hz⟩ := List.mem_flatMap.1 hz
    obtain ⟨i, hi, rfl⟩ := List.mem_map.1 hx
    have := (List.all_eq_true.1 (hc i (by simpa using hi))) z hz
    cases z <;> simp_all [Am.un1, isCell]
  have hle : len * inf.size + m * inf.size ≤ cap * inf.size := by rw [← Nat.add_mul]; exact Nat.mul_le_mul_right _ hcap
  obtain ⟨hwr, hinv⟩ := store_inv (off := off + len * inf.size) hi hr hB hvr.un1 hcell (fun y hy G t v => by obtain ⟨z, hz, rfl⟩ := List.mem_map.1 hy; exact Sp_un1 ..) (by simp [c1]; omega)
  have hrun := run_append_room (P := P) (ty := o.type) hu h3 h2 hs hi.wi hcap hwr
  have hEx : (execOp a.eval o).run P w = .ok (.value (.slice (some (mkA b' off)) (len + m) cap)) (w.setCells b' (off + len * inf.size) news) := append_exec ho (by rw [hde]; exact hrun)
  refine ⟨_, _, reG (clrT id (off + len * inf.size) ((cpy m el).map un1).length) G, [], .one (step_value hoi hw hEx), hwr.trans.trans ((clrT_re ..).trans _ _), ?_⟩
  rw [List.append_nil]
  exact ⟨hinv, .hs _ _ _ _ _ _ hr, by simp [SpV, Sp]⟩
end Go.Am
