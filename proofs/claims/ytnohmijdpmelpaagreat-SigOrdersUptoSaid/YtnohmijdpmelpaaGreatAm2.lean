/- The abstract machine: 'from this todo list on, the function returns this value', and its rules for the code's frame. -/
import Derived.Test.YtnohmijdpmelpaaGreatAm1
set_option linter.unusedSectionVars false
set_option linter.unusedVariables false
namespace Go.Am
open Go
variable [Tab]

def un1 : AV → AV
  | .bs s _ => .bs s false
  | .sl sz n el _ => .sl sz n el false
  | v => v
def un : AV → AV
  | .tup vs => .tup (vs.map un1)
  | v => un1 v
theorem VR.un1 {G w ρ a v} (h : VR G w ρ a v) : VR G w ρ (un1 a) v := by
  cases h with
  | sl ρ sz n el own base cap vs hn hb hsz hc hv => exact .sl _ _ _ _ _ _ _ vs hn hb hsz hc hv
  | bs ρ s own v h =>
    refine .bs _ _ _ _ ?_
    cases h with
    | sl ρ sz n el own base cap vs hn hb hsz hc hv => exact .sl _ _ _ _ _ _ _ vs hn hb hsz hc hv
  | tup ρ cs vs hl hv => exact .tup _ _ vs hl hv
  | int => exact .int ..
  | bool => exact .bool ..
  | str => exact .str ..
  | hs ρ id off len cap b h => exact .hs _ _ _ _ _ _ h
  | ptr ρ id off b h => exact .ptr _ _ _ _ h
  | nilp => exact .nilp _
  | cptr ρ v b o vs hc hv => exact .cptr _ _ _ _ vs hc hv
  | fn ρ f cap vs hl hv => exact .fn _ _ _ vs hl hv
  | nilfn => exact .nilfn _
  | iface ρ t v x h => exact .iface _ _ _ _ h
  | nili => exact .nili _
  | agg ρ cs vs hl hv => exact .agg _ _ vs hl hv
  | bad => exact .bad _ _
theorem VR.un {G w ρ a v} (h : VR G w ρ a v) : VR G w ρ (un a) v := by
  cases a with
  | tup cs =>
    cases h with
    | tup ρ cs vs hl hv =>
      refine .tup _ _ vs (by simpa using hl) ?_
      intro q c v h1 h2
      rw [List.getElem?_map, Option.map_eq_some_iff] at h1
      obtain ⟨x, h1, rfl⟩ := h1
      exact (hv q x v h1 h2).un1
  | _ => exact VR.un1 h
theorem Sp_un1 (G t a v) : Sp G t (un1 a) v := by cases a <;> simp [Am.un1, Sp]
theorem SpV_of_Sp {G : Gh} {t : Nat → Own} {a : AV} {v : Value} (h : Sp G (t 0) a v) (ht : ∀ vs, a ≠ .tup vs) : SpV G t a v := by
  cases a <;> first | exact h | exact absurd rfl (ht _)
theorem SpV_un (G : Gh) (t : Nat → Own) (a : AV) (v : Value) : SpV G t (un a) v := by
  cases a with
  | tup vs =>
    cases v <;> try (simp [Am.un, SpV, Sp]; done)
    intro c x y h1 h2
    simp only [List.getElem?_map, Option.map_eq_some_iff] at h1
    obtain ⟨z, _, rfl⟩ := h1
    exact Sp_un1 ..
  | bs => simp [Am.un, Am.un1, SpV, Sp]
  | sl => simp [Am.un, Am.un1, SpV, Sp]
  | _ => simp [Am.un, Am.un1, SpV, Sp]

/-- a value in which nobody owns room -/
def NoRoom (a : AV) : Prop := ∀ G t v, SpV G t a v

def nilSl (P : Program) (t : TypeId) : AV :=
  match P.underlying t with
  | some (.slice e) => match P.underlying e with
    | some (.int .u8) => .bs [] true
    | _ => .sl (P.cellsOf e) 0 (fun _ => .bad) true
  | _ => .bad
def ofVal (P : Program) (t : TypeId) : Value → AV
  | .int k n => .int k n
  | .bool b => .bool b
  | .string ⟨⟨l⟩⟩ => .str l
  | .pointer none => .nilp
  | .nilIface => .nili
  | .nilFunc => .nilfn
  | .slice none 0 0 => nilSl P t
  | _ => .bad
def opd (P : Program) (t : TypeId) (fr : Fr) : Operand → AV
  | .tmp i => fr i
  | .const v => ofVal P t v
  | .func f => .fn (.func f) []
  | .global _ => .bad
theorem VR.nilSl (P : Program) (t : TypeId) (G : Gh) (w : World) (ρ : List Nat) : VR G w ρ (nilSl P t) (.slice none 0 0) := by
  unfold Am.nilSl
  split
  · split
    · exact .bs _ _ _ _ (.sl _ _ _ _ _ none 0 (fun _ => undef) (Nat.le_refl _) (fun _ => rfl) (fun i h => absurd h (Nat.not_lt_zero _)) (fun b o h => by simp at h) (fun i j c h => absurd h (Nat.not_lt_zero _)))
    · exact .sl _ _ _ _ _ none 0 (fun _ => undef) (Nat.le_refl _) (fun _ => rfl) (fun i h => absurd h (Nat.not_lt_zero _)) (fun b o h => by simp at h) (fun i j c h => absurd h (Nat.not_lt_zero _))
  · exact .bad ..
theorem VR.ofVal (P : Program) (t : TypeId) (G : Gh) (w : World) (ρ : List Nat) (v : Value) : VR G w ρ (ofVal P t v) v := by
  unfold Am.ofVal
  split
  · exact .int ..
  · exact .bool ..
  · rename_i l; have := VR.str (G := G) (w := w) ρ l; simpa using this
  · exact .nilp _
  · exact .nili _
  · exact .nilfn _
  · exact VR.nilSl ..
  · exact .bad ..
theorem Sp_none (G t a l c) : Sp G t a (.slice none l c) := by
  unfold Sp; split <;> simp_all
theorem SpV_ofVal (P : Program) (t : TypeId) (G : Gh) (T : Nat → Own) (v : Value) : SpV G T (ofVal P t v) v := by
  unfold Am.ofVal
  split <;> simp [SpV, Sp]
theorem VR.opd {P : Program} {t : TypeId} {G : Gh} {w : World} {ρ : List Nat} {fr : Fr} {a : Act} (h : FR G w ρ fr a.tmps) (x : Operand) : VR G w ρ (opd P t fr x) (a.eval x) := by
  cases x with
  | tmp i => exact (h i).1
  | const v => exact VR.ofVal ..
  | func f => exact .fn _ _ _ [] rfl (fun q c v h => by simp at h)
  | global g => exact .bad ..

/-- what a function leaves -/
def Post (k0 : Nat) (G : Gh) (w : World) (ρ : List Nat) (res : AV) (H' : Heap) (v : Value) (w' : World) (G' : Gh) (ρ' : List Nat) : Prop :=
  Trans G w G' w' ∧ WI G' w' ∧ ρ'.take k0 = ρ.take k0 ∧ BR G' w' ρ' H' ∧ VR G' w' ρ' res v ∧ SpV G' .res res v
/-- 'k0': so many blocks are the caller's -/
def Runs (P : Program) (f : FuncId) (n k0 : Nat) (S : List Item) (fr : Fr) (H : Heap) (res : AV) (H' : Heap) : Prop :=
  ∀ (b : Frame) (a : Act) (w : World) (G : Gh) (ρ : List Nat), b.fn = f → b.kind = .normal → a.defers = [] → k0 ≤ ρ.length → Inv G w ρ n fr H a.tmps →
    ∀ cs, ∃ v w' G' ρ' frm, Steps P (lone (b.at a S) cs w) (lone frm cs w') ∧ frm.fn = f ∧ frm.leaving P w' (.returned v) ∧ Post k0 G w ρ res H' v w' G' ρ'
/-- a function's contract -/
def FnOK (P : Program) (f : FuncId) (args : List AV) (H : Heap) (res : AV) (H' : Heap) : Prop :=
  ∀ (w : World) (G : Gh) (ρ : List Nat) (vs : List Value), vs.length = args.length →
    (∀ i c v, args[i]? = some c → vs[i]? = some v → VR G w ρ c v ∧ SpV G (.slot i) c v) → BR G w ρ H → WI G w →
    Calls P f vs.toArray w fun e w' => ∃ v G' ρ', e = .returned v ∧ Post H.length G w ρ res H' v w' G' ρ'

variable {P : Program} {f : FuncId} {n k0 : Nat} {S : List Item} {fr : Fr} {H : Heap} {res : AV} {H' : Heap}
theorem Runs.silent {S' : List Item} (hs : ∀ (b : Frame) (a : Act) cs w, step P (lone (b.at a S) cs w) = .next (lone (b.at a S') cs w))
    (h : Runs P f n k0 S' fr H res H') : Runs P f n k0 S fr H res H' := by
  intro b a w G ρ h1 h2 h3 hk h4 cs
  obtain ⟨v, w', G', ρ', frm, hst, hr⟩ := h b a w G ρ h1 h2 h3 hk h4 cs
  exact ⟨v, w', G', ρ', frm, .head (hs b a cs w) hst, hr⟩
theorem Runs.skip (h : Runs P f n k0 S fr H res H') : Runs P f n k0 (.code .skip :: S) fr H res H' := h.silent fun _ _ _ _ => step_skip
theorem Runs.seq {x y : Code} (h : Runs P f n k0 (.code x :: .code y :: S) fr H res H') : Runs P f n k0 (.code (.seq x y) :: S) fr H res H' := h.silent fun _ _ _ _ => step_seq
theorem Runs.block {id : Nat} {c : Code} (h : Runs P f n k0 (.code c :: .inBlock id :: S) fr H res H') : Runs P f n k0 (.code (.block id c) :: S) fr H res H' := h.silent fun _ _ _ _ => step_block
theorem Runs.inBlock {id : Nat} (h : Runs P f n k0 S fr H res H') : Runs P f n k0 (.inBlock id :: S) fr H res H' := h.silent fun _ _ _ _ => step_inBlock
theorem Runs.exit {id : Nat} {S' : List Item} (e : exitTo id S = some S') (h : Runs P f n k0 S' fr H res H') : Runs P f n k0 (.code (.exit id) :: S) fr H res H' := h.silent fun _ _ _ _ => step_exit e
theorem Runs.inLoop {c : Code} (h : Runs P f n k0 (.code c :: .inLoop c :: S) fr H res H') : Runs P f n k0 (.inLoop c :: S) fr H res H' := h.silent fun _ _ _ _ => step_inLoop
theorem Runs.loop {c : Code} (h : Runs P f n k0 (.inLoop c :: S) fr H res H') : Runs P f n k0 (.code (.loop c) :: S) fr H res H' := by
  intro b a w G ρ h1 h2 h3 hk h4 cs
  obtain ⟨v, w', G', ρ', frm, ⟨k, hst⟩, hr⟩ := h b a w G ρ h1 h2 h3 hk h4 cs
  refine ⟨v, w', G', ρ', frm, ?_, hr⟩
  cases k with
  | zero =>
    simp only [runN, Stepped.next.injEq] at hst
    have hm := congrArg (fun m => (m.gs[0]?).map fun g => g.frame.mode) hst
    have hl := hr.2.1.1
    simp [lone, Frame.at] at hm
    rw [← hm] at hl
    cases hl
  | succ k =>
    simp only [runN, step_inLoop] at hst
    exact .head step_loop ⟨k, hst⟩
theorem Runs.region {id : Nat} {ops : Array Oper} (h : Runs P f n k0 (.inRegion ops (List.range ops.size) :: S) fr H res H') : Runs P f n k0 (.code (.region id ops false) :: S) fr H res H' := h.silent fun _ _ _ _ => step_region
theorem Runs.regionEnd {ops : Array Oper} (h : Runs P f n k0 S fr H res H') : Runs P f n k0 (.inRegion ops [] :: S) fr H res H' := h.silent fun _ _ _ _ => step_region_end
/-- which way -/
def gd (g : Bool) (A B : Prop) : Prop := match g with | true => A | false => B
theorem gd_split {g : Bool} {A B : Prop} (ha : g = true → A) (hb : g = false → B) : gd g A B := by
  cases g
  · exact hb rfl
  · exact ha rfl
theorem Runs.cond {c : Operand} {x y : Code} {g : Bool} (hc : opd P 0 fr c = .bool g)
    (h : gd g (Runs P f n k0 (.code x :: S) fr H res H') (Runs P f n k0 (.code y :: S) fr H res H')) : Runs P f n k0 (.code (.cond c x y) :: S) fr H res H' := by
  intro b a w G ρ h1 h2 h3 hk h4 cs
  have hv := VR.opd (P := P) (t := 0) h4.fr c
  rw [hc] at hv
  generalize hx : a.eval c = x at hv
  cases hv
  have hst := step_cond (P := P) (b := b) (k := S) (cs := cs) (w := w) (x := x) (y := y) hx
  cases g with
  | true =>
    obtain ⟨v, w', G', ρ', frm, hs, hr⟩ := h b a w G ρ h1 h2 h3 hk h4 cs
    exact ⟨v, w', G', ρ', frm, .head hst hs, hr⟩
  | false =>
    obtain ⟨v, w', G', ρ', frm, hs, hr⟩ := h b a w G ρ h1 h2 h3 hk h4 cs
    exact ⟨v, w', G', ρ', frm, .head hst hs, hr⟩
/-- a loop, by a relation and a measure -/
theorem Runs.loopI {c : Code} {σ : Type} (Pre : σ → Fr → Heap → Prop) (μ : σ → Nat)
    (round : ∀ s fr H, Pre s fr H → (∀ s' fr' H1, μ s' < μ s → Pre s' fr' H1 → Runs P f n k0 (.inLoop c :: S) fr' H1 res H') → Runs P f n k0 (.code c :: .inLoop c :: S) fr H res H')
    (s : σ) (h : Pre s fr H) : Runs P f n k0 (.code (.loop c) :: S) fr H res H' := by
  refine Runs.loop ?_
  have key : ∀ m s fr H, μ s = m → Pre s fr H → Runs P f n k0 (.inLoop c :: S) fr H res H' := by
    intro m
    induction m using Nat.strongRecOn with
    | _ m ih => exact fun s fr H hm hp => Runs.inLoop (round s fr H hp fun s' fr' H1 hlt hp' => ih _ (hm ▸ hlt) s' fr' H1 rfl hp')
  exact key _ s fr H rfl h
/-- from the code of a function to its contract -/
theorem FnOK.of_runs {args : List AV} {fn : Func} {c : Code} (hf : P.funcs[f]? = some fn) (hb : fn.body = some c) (hn : args.length ≤ fn.ntmps)
    (h : Runs P f fn.ntmps H.length [.code c] (fun i => args.getD i .bad) H res H') : FnOK P f args H res H' := by
  intro w G ρ vs hl hargs hbr hwi cs
  let b : Frame := { (default : Frame) with fn := f, kind := .normal }
  have henter : Frame.enter P f vs.toArray .normal =
      b.at { tmps := vs.toArray ++ Array.replicate (fn.ntmps - vs.toArray.size) undef, defers := [] } [.code c] := by
    simp [Frame.enter, Frame.at, hf, hb, b]
  obtain ⟨v, w', G', ρ', frm, hst, h1, h2, h3⟩ := h b { tmps := vs.toArray ++ Array.replicate (fn.ntmps - vs.toArray.size) undef, defers := [] } w G ρ rfl rfl rfl (by rw [hbr.len]; exact Nat.le_refl _)
    ⟨by simp; omega, fun i => by
      have e : (vs.toArray ++ Array.replicate (fn.ntmps - vs.toArray.size) undef).getD i undef = vs.getD i undef := by
        simp only [Array.getD_eq_getD_getElem?, List.getD_eq_getElem?_getD]
        rcases Nat.lt_or_ge i vs.length with h | h
        · rw [Array.getElem?_append_left (by simpa using h)]; simp
        · rw [Array.getElem?_append_right (by simpa using h), List.getElem?_eq_none h]
          simp only [Array.getElem?_replicate]
          split <;> rfl
      rw [e]
      rcases Nat.lt_or_ge i args.length with hi | hi
      · have := hargs i args[i] (vs[i]'(by omega)) (List.getElem?_eq_getElem hi) (List.getElem?_eq_getElem (by omega))
        simpa [List.getD_eq_getElem?_getD, List.getElem?_eq_getElem hi, List.getElem?_eq_getElem (show i < vs.length by omega)] using this
      · simp only [List.getD_eq_getElem?_getD, List.getElem?_eq_none hi, Option.getD_none]
        exact ⟨.bad .., by simp [SpV, Sp]⟩, hbr, hwi⟩ cs
  rw [← henter] at hst
  exact ⟨.returned v, w', frm, ⟨v, G', ρ', rfl, h3⟩, hst, h1, h2⟩
end Go.Am
