/- The abstract machine: new slices; 'append'. -/
import Derived.Test.YtnohmijdpmelpaaGreatAm15
import Derived.Laws.AppendOwn
set_option linter.unusedSectionVars false
set_option linter.unusedVariables false
set_option linter.unusedSimpArgs false
namespace Go.Am
open Go
variable [Tab]
variable {P : Program} {G G' : Gh} {w : World} {ρ : List Nat} {n : Nat} {fr : Fr} {H : Heap} {tmps : Array Value}

/-- less is owned, more is frozen -/
structure Sub (G G' : Gh) : Prop where
  frz : ∀ b o, G b o = .frz → G' b o = .frz
  ctx : ∀ b o, G b o = .ctx → G' b o = .ctx
  free : ∀ b o, G b o = .free → G' b o = .free
  mine : ∀ b o, (G' b o).mine = true → (G b o).mine = true
  new : ∀ b o, G' b o = .frz → G b o = .frz ∨ (G b o).mine = true
theorem Sub.keeps (h : Sub G G') (w : World) : Keeps G w G' w := fun b o e => ⟨h.frz b o e, rfl⟩
theorem Sub.trans (h : Sub G G') (k : ∀ b o, (G b o).mine = true → w.frozen? (mkA b o) = false) : Trans G w G' w := ⟨rfl, rfl, rfl, Nat.le_refl _, h.frz, h.ctx, fun _ _ _ => ⟨rfl, rfl⟩, fun _ _ _ => rfl, fun b o e1 e2 => k b o ((h.new b o e2).resolve_left e1)⟩
theorem Sub.wi (h : Sub G G') (k : WI G w) : WI G' w :=
  ⟨fun b o e => k.own b o (h.mine b o e), fun b o e => h.free b o (k.old b o e), fun b o v e => k.one b o v (e.elim (h.new b o) (fun e => .inr (h.mine b o e))), k.tab.trans (h.trans fun b o e => (k.own b o e).2)⟩
theorem drew_keeps (G : Gh) (w : World) : Keeps G w G w.drew := fun b o e => ⟨e, rfl⟩
theorem drew_trans (G : Gh) (w : World) : Trans G w G w.drew := ⟨rfl, rfl, rfl, Nat.le_refl _, fun _ _ e => e, fun _ _ e => e, fun _ _ _ => ⟨rfl, rfl⟩, fun _ _ _ => rfl, fun _ _ e1 e2 => absurd e2 e1⟩
theorem drew_wi (k : WI G w) : WI G w.drew := ⟨k.own, k.old, k.one, k.tab.trans (drew_trans G w)⟩
theorem drew_br (k : BR G w ρ H) : BR G w.drew ρ H := ⟨k.len, fun id b blk j c h1 h2 h3 => by
  obtain ⟨e, v, h4, h5, h6⟩ := k.cell id b blk j c h1 h2 h3
  exact ⟨e, v, h4, h5.keep (drew_keeps _ _), h6⟩⟩
theorem drew_fr (k : FR G w ρ fr tmps) : FR G w.drew ρ fr tmps := fun i => ⟨(k i).1.keep (drew_keeps _ _), (k i).2⟩
theorem drew_inv (k : Inv G w ρ n fr H tmps) : Inv G w.drew ρ n fr H tmps := ⟨k.size, drew_fr k.fr, drew_br k.br, drew_wi k.wi⟩

/-- a new row: so many elements are frozen, the rest is room -/
def rowT (m : Nat) : Nat → Own := fun o => if o < m then .frz else .res 0
theorem newSl {sz m cap : Nat} {el : Nat → AV} {vs : List Value} {e : TypeId} (hi : Inv G w ρ n fr H tmps) (h1 : ∀ v, v ∈ vs → v.oneCell' = true) (hl : vs.length = cap * sz) (hm : m ≤ cap) (hsz : ∀ i, i < m → (el i).cells.length = sz)
    (hv : ∀ (i j : Nat) (c : AV) (v : Value), i < m → (el i).cells[j]? = some c → vs[i * sz + j]? = some v → VR G w [] c v)
    (fz : Nat × Nat := (0, 0)) (hz : ∀ o, o < vs.length → (decide (fz.1 ≤ o) && decide (o < fz.2)) = false := by intros; simp) :
    InvV (allocG G w.heap.size vs.length (rowT (m * sz))) (w.alloc (.cells vs.toArray e fz)) ρ n fr H tmps (.sl sz m el true) (.slice (some (mkA w.heap.size 0)) m cap) := by
  have hw := hi.wi
  have hle : m * sz ≤ vs.length := by rw [hl]; exact Nat.mul_le_mul_right _ hm
  refine ⟨⟨hi.size, by have := alloc_fr hw hi.fr (.cells vs.toArray e fz) vs.length (rowT (m * sz)) []; rwa [List.append_nil] at this, alloc_br hw hi.br .., ?_⟩, ?_, ?_⟩
  · have := alloc_wi (G := G) hw vs.toArray e (rowT (m * sz)) (by simpa using h1) fz (by simpa using hz)
    simpa using this
  · refine .sl _ _ _ _ _ (some (w.heap.size, 0)) cap (fun q => vs.getD q undef) hm (by simp) hsz (fun b o eb q hq => ?_) (fun i j c hi hc => ?_)
    · simp only [Option.some.injEq, Prod.mk.injEq] at eb
      obtain ⟨rfl, rfl⟩ := eb
      rw [Nat.zero_add]
      have hq2 : q < vs.length := by omega
      refine ⟨by simp [allocG, hq2, rowT, hq], ?_⟩
      rw [cell_alloc_new]
      simp [List.getD_eq_getElem?_getD, hq2]
    · have hj : j < sz := by rw [← hsz i hi]; exact (List.getElem?_eq_some_iff.1 hc).1
      have hq : i * sz + j < vs.length := by
        have : (i + 1) * sz ≤ m * sz := Nat.mul_le_mul_right _ hi
        rw [Nat.succ_mul] at this; omega
      have := (hv i j c vs[i * sz + j] hi hc (List.getElem?_eq_getElem hq)).keep (alloc_keeps hw (.cells vs.toArray e fz) vs.length (rowT (m * sz)))
      simpa [List.getD_eq_getElem?_getD, List.getElem?_eq_getElem hq] using this
  · refine SpV_of_Sp ?_ (by simp)
    show Sp _ (.res 0) _ _
    simp only [Sp]
    intro _ q h2 h3
    simp only [mkA, Nat.zero_add, allocG, if_true, hl, if_pos h3, rowT]
    rw [if_neg (by omega)]

/-! ### 'append' -/
def apEl (n : Nat) (el el2 : Nat → AV) : Nat → AV := fun i => bif Nat.blt i n then el i else el2 (i - n)
theorem apEl_lt {n i : Nat} {el el2 : Nat → AV} (h : i < n) : apEl n el el2 i = el i := by
  unfold apEl
  cases hb : Nat.blt i n with
  | true => rfl
  | false => rw [Nat.blt, Nat.ble_eq_true_of_le h] at hb; cases hb
theorem apEl_ge {n i : Nat} {el el2 : Nat → AV} (h : n ≤ i) : apEl n el el2 i = el2 (i - n) := by
  unfold apEl
  cases hb : Nat.blt i n with
  | false => rfl
  | true => have := Nat.le_of_ble_eq_true hb; omega
/-- what is appended -/
structure Src (P : Program) (G : Gh) (w : World) (sz m : Nat) (el : Nat → AV) (x : Value) (news : List Value) : Prop where
  len : (Builtin.lenOf x).run P w = .ok m w
  first : (Builtin.firstCells sz m x).run P w = .ok news.toArray w
  first' : (Builtin.firstCells sz m x).run P w.drew = .ok news.toArray w.drew
  size : news.length = m * sz
  one : ∀ v, v ∈ news → v.oneCell' = true
  elsz : ∀ i, i < m → (el i).cells.length = sz
  val : ∀ (i j : Nat) (c : AV) (v : Value), i < m → (el i).cells[j]? = some c → news[i * sz + j]? = some v → VR G w [] c v
def isSS (P : Program) (t : TypeId) : Bool := match P.underlying t with
  | some (.slice _) => true
  | some .string => true
  | _ => false
theorem isSS_und {t : TypeId} (h : isSS P t = true) : (∃ d, P.underlying t = some (.slice d)) ∨ P.underlying t = some .string := by
  unfold isSS at h
  split at h
  · rename_i d hd; exact .inl ⟨d, hd⟩
  · rename_i hd; exact .inr hd
  · simp at h
theorem run_append_room {t t2 ty e : TypeId} {i : TypeInfo} (ht : P.underlying t = some (.slice e)) (hi : P.info? e = some i) (h2 : isSS P t2 = true) {b off len cap m : Nat} {x : Value} {news : List Value} {el : Nat → AV}
    (hs : Src P G w i.size m el x news) (hw : WI G w) (hcap : len + m ≤ cap) (hwr : Wr G w b (off + len * i.size) news) :
    (Builtin.append_ #[t, t2] ty #[.slice (some (mkA b off)) len cap, x]).run P w = .ok (.slice (some (mkA b off)) (len + m) cap) (w.setCells b (off + len * i.size) news) := by
  have hst := hwr.runs (P := P) hw
  rcases isSS_und h2 with ⟨d, hd⟩ | hd <;>
  simp only [Builtin.append_, List.getElem?_toArray, List.getElem?_cons_zero, List.getElem?_cons_succ, Sem.run_bind, run_und ht, Result.andThen_ok, sizeOf, run_ti hi, Sem.run_pure, run_und hd, Bool.false_eq_true, if_false, hs.len, if_pos hcap, Bool.not_false, if_true, hs.first, mkA_add, hst]
theorem run_append_grow {t t2 ty e : TypeId} {i : TypeInfo} {z : Value} (ht : P.underlying t = some (.slice e)) (hi : P.info? e = some i) (hz : i.zero = some z) (h2 : isSS P t2 = true) {base : Option Addr} {len cap m : Nat} {x : Value} {olds news : List Value} {el : Nat → AV}
    (hs : Src P G w i.size m el x news) (hcap : cap < len + m) (hbytes : (len + m) * i.bytes ≤ 140737488355328) (hlen : len + m ≤ 140737488355328) (hold : (Builtin.firstCells i.size len (.slice base len cap)).run P w.drew = .ok olds.toArray w.drew) :
    (Builtin.append_ #[t, t2] ty #[.slice base len cap, x]).run P w = .ok (.slice (some (mkA w.heap.size 0)) (len + m) (grownCap w (len + m) cap e)) (w.drew.alloc (.cells (olds ++ (news ++ (Builtin.zeroCells z.cells (grownCap w (len + m) cap e - (len + m))).toList)).toArray e)) := by
  have hfit := growslice_fits (need := len + m) (old := cap) (bytes := i.bytes) hcap hbytes
  have hold' := hold
  have hf' := hs.first'
  simp only [World.drew] at hold' hf'
  have h63 : ¬ (((len + m : Nat) : Int) > IntKind.i64.max ∧ (False ∨ i.bytes = 0)) := by simp [IntKind.max, IntKind.signed, IntKind.bits]; omega
  have h48 : ¬ (Builtin.nextslicecap (len + m) cap * i.bytes > 2 ^ 48) := by omega
  rcases isSS_und h2 with ⟨d, hd⟩ | hd <;>
  · simp only [Builtin.append_, List.getElem?_toArray, List.getElem?_cons_zero, List.getElem?_cons_succ, Sem.run_bind, run_und ht, Result.andThen_ok, sizeOf, run_ti hi, Sem.run_pure, run_und hd, Bool.false_eq_true, if_false, hs.len,
      if_neg (show ¬ (len + m ≤ cap) by omega), if_neg h63, if_neg h48, run_choose, Question.forced, run_askRoom, hold', Bool.not_false, if_true, hf', zeroValue, hz, newRow, run_newObj]
    have : ∀ Z : Array Value, (olds ++ (news ++ Z.toList)).toArray = olds.toArray ++ news.toArray ++ Z := fun Z => by apply Array.ext'; simp
    rw [this]
    rfl
theorem run_append_nil0 {t t2 ty e : TypeId} {i : TypeInfo} (ht : P.underlying t = some (.slice e)) (hi : P.info? e = some i) (h2 : isSS P t2 = true) {x : Value} {news : List Value} {el : Nat → AV}
    (hs : Src P G w i.size 0 el x news) : (Builtin.append_ #[t, t2] ty #[.slice none 0 0, x]).run P w = .ok (.slice none 0 0) w := by
  rcases isSS_und h2 with ⟨d, hd⟩ | hd <;>
  simp only [Builtin.append_, List.getElem?_toArray, List.getElem?_cons_zero, List.getElem?_cons_succ, Sem.run_bind, run_und ht, Result.andThen_ok, sizeOf, run_ti hi, Sem.run_pure, run_und hd, Bool.false_eq_true, if_false, hs.len, Nat.add_zero, Nat.le_refl, if_true, Bool.not_false, hs.first]
theorem mem_zeroCells {z : Array Value} {m : Nat} {v : Value} (h : v ∈ (Builtin.zeroCells z m).toList) : v ∈ z.toList := by
  simp only [Builtin.zeroCells, Array.toList_map, List.mem_map] at h
  obtain ⟨i, hi, rfl⟩ := h
  have hz : 0 < z.size := by
    rcases Nat.eq_zero_or_pos z.size with h0 | h0
    · rw [h0] at hi; simp at hi
    · exact h0
  have := Nat.mod_lt i hz
  simp [this]
/-- the room's new owners when so much of it has been written -/
def roomG (G : Gh) (t b lo hi : Nat) : Gh := fun b' o' => if G b' o' = .slot t 0 then (if b' = b ∧ lo ≤ o' ∧ o' < hi then .frz else .res 0) else G b' o'
theorem roomG_sub (G : Gh) (t b lo hi : Nat) : Sub G (roomG G t b lo hi) := by
  constructor
  · intro b o h; simp [roomG, h]
  · intro b o h; simp [roomG, h]
  · intro b o h; simp [roomG, h]
  · intro b o h
    unfold roomG at h
    split at h
    · rename_i e; rw [e]; rfl
    · exact h
  · intro b o h
    unfold roomG at h
    split at h
    · rename_i e; rw [e]; exact .inr rfl
    · exact .inl h
theorem FR.setUn {t : Nat} (h : FR G w ρ fr tmps) : FR G w ρ (fr.set t (un (fr t))) tmps := by
  intro i
  unfold Fr.set
  cases hb : Nat.beq i t with
  | true => have := Nat.eq_of_beq_eq_true hb; subst this; exact ⟨(h i).1.un, SpV_un ..⟩
  | false => exact h i
theorem apEl_vals {sz len m : Nat} {el el2 : Nat → AV} {G2 : Gh} {w2 : World} {all : List Value} (h1 : ∀ i, i < len → (el i).cells.length = sz)
    (hA : ∀ (i j : Nat) (c : AV) (v : Value), i < len → (el i).cells[j]? = some c → all[i * sz + j]? = some v → VR G2 w2 [] c v)
    (hB : ∀ (i j : Nat) (c : AV) (v : Value), i < m → (el2 i).cells[j]? = some c → all[(len + i) * sz + j]? = some v → VR G2 w2 [] c v) :
    ∀ (i j : Nat) (c : AV) (v : Value), i < len + m → (apEl len el el2 i).cells[j]? = some c → all[i * sz + j]? = some v → VR G2 w2 [] c v := by
  intro i j c v hi hc hv
  rcases Nat.lt_or_ge i len with h | h
  · rw [apEl_lt h] at hc; exact hA i j c v h hc hv
  · rw [apEl_ge h] at hc
    exact hB (i - len) j c v (by omega) hc (by rwa [show len + (i - len) = i by omega])
theorem append_core {t tt t2 ty e sz len m : Nat} {el el2 : Nat → AV} {inf : TypeInfo} {zs : List AV} {vd x : Value} {news : List Value} (hi : Inv G w ρ n fr H tmps) (ht : P.underlying tt = some (.slice e)) (hinf : P.info? e = some inf) (hsz : inf.size = sz) (hz : zeroE P e = some zs) (h2 : isSS P t2 = true)
    (hD : VR G w ρ (.sl sz len el true) vd) (hSp : Sp G (.slot t 0) (.sl sz len el true) vd) (hs : Src P G w sz m el2 x news) (hbytes : (len + m) * inf.bytes ≤ 140737488355328) (hlen : len + m ≤ 140737488355328) :
    ∃ v' w' G', (Builtin.append_ #[tt, t2] ty #[vd, x]).run P w = .ok v' w' ∧ Trans G w G' w' ∧ InvV G' w' ρ n (fr.set t (un (fr t))) H tmps (.sl sz (len + m) (apEl len el el2) true) v' := by
  subst hsz
  obtain ⟨z, zv, inf', q1, q2, q3, q4, q5, _⟩ := zero_sound hz
  rw [hinf] at q1; simp at q1; subst q1
  obtain ⟨base, cap, vs, rfl, e1, e2, e3, e4, e5⟩ := hD.sl_inv
  have hap : ∀ i, i < len + m → (apEl len el el2 i).cells.length = inf.size := by
    intro i hi
    rcases Nat.lt_or_ge i len with h | h
    · rw [apEl_lt h]; exact e3 i h
    · rw [apEl_ge h]; exact hs.elsz _ (by omega)
  have grow : cap < len + m → ∀ olds : List Value, olds.length = len * inf.size → (∀ v, v ∈ olds → v.oneCell' = true) → (∀ (i j : Nat) (c : AV) (v : Value), i < len → (el i).cells[j]? = some c → olds[i * inf.size + j]? = some v → VR G w [] c v) →
      (Builtin.firstCells inf.size len (.slice (base.map fun p => mkA p.1 p.2) len cap)).run P w.drew = .ok olds.toArray w.drew →
      ∃ v' w' G', (Builtin.append_ #[tt, t2] ty #[.slice (base.map fun p => mkA p.1 p.2) len cap, x]).run P w = .ok v' w' ∧ Trans G w G' w' ∧ InvV G' w' ρ n (fr.set t (un (fr t))) H tmps (.sl inf.size (len + m) (apEl len el el2) true) v' := by
    intro hcap olds o1 o2 o3 o4
    have hr := run_append_grow (ty := ty) ht hinf q2 h2 hs hcap hbytes hlen o4
    have hge := grownCap_ge w (len + m) cap e
    have hid : Inv G w.drew ρ n (fr.set t (un (fr t))) H tmps := drew_inv ⟨hi.size, hi.fr.setUn, hi.br, hi.wi⟩
    have hall : (olds ++ (news ++ (Builtin.zeroCells z.cells (grownCap w (len + m) cap e - (len + m))).toList)).length = grownCap w (len + m) cap e * inf.size := by
      simp only [List.length_append, o1, hs.size, Array.length_toList, size_zeroCells, q3, List.size_toArray, ← q4, ← Nat.add_mul]
      congr 1; omega
    refine ⟨_, _, _, hr, (drew_trans G w).trans (alloc_trans hid.wi _ _ _), newSl hid ?_ hall hge hap ?_⟩
    · intro v hv
      simp only [List.mem_append] at hv
      rcases hv with hv | hv | hv
      · exact o2 v hv
      · exact hs.one v hv
      · have := mem_zeroCells hv
        rw [q3] at this
        exact q5 v (by simpa using this)
    · refine apEl_vals e3 (fun i j c v h1 h2 h3 => ?_) (fun i j c v h1 h2 h3 => ?_)
      · have hj : j < inf.size := by rw [← e3 i h1]; exact (List.getElem?_eq_some_iff.1 h2).1
        have hq : i * inf.size + j < olds.length := by
          rw [o1]
          have : (i + 1) * inf.size ≤ len * inf.size := Nat.mul_le_mul_right _ h1
          rw [Nat.succ_mul] at this; omega
        rw [List.getElem?_append_left hq] at h3
        exact (o3 i j c v h1 h2 h3).keep (drew_keeps _ _)
      · have hj : j < inf.size := by rw [← hs.elsz i h1]; exact (List.getElem?_eq_some_iff.1 h2).1
        have hq : i * inf.size + j < news.length := by
          rw [hs.size]
          have : (i + 1) * inf.size ≤ m * inf.size := Nat.mul_le_mul_right _ h1
          rw [Nat.succ_mul] at this; omega
        rw [Nat.add_mul, List.getElem?_append_right (by omega), o1, show len * inf.size + i * inf.size + j - len * inf.size = i * inf.size + j by omega, List.getElem?_append_left hq] at h3
        exact (hs.val i j c v h1 h2 h3).keep (drew_keeps _ _)
  cases base with
  | none =>
    have hc0 := e2 rfl
    subst hc0
    have hl0 : len = 0 := by omega
    subst hl0
    by_cases hm : m = 0
    · subst hm
      refine ⟨.slice none 0 0, w, G, run_append_nil0 (ty := ty) ht hinf h2 hs, Trans.refl _ _, ⟨hi.size, hi.fr.setUn, hi.br, hi.wi⟩, ?_, SpV_of_Sp (Sp_none ..) (by simp)⟩
      exact .sl _ _ _ _ _ none 0 (fun _ => undef) (Nat.le_refl _) (fun _ => rfl) (fun i h => absurd h (Nat.not_lt_zero _)) (fun b o h => by simp at h) (fun i j c h => absurd h (Nat.not_lt_zero _))
    · exact grow (by omega) [] (by simp) (by simp) (by simp) (by rfl)
  | some p =>
    obtain ⟨b, off⟩ := p
    have hlen2 : len * inf.size ≤ cap * inf.size := Nat.mul_le_mul_right _ e1
    by_cases hcap : len + m ≤ cap
    · have hcz : (len + m) * inf.size ≤ cap * inf.size := Nat.mul_le_mul_right _ hcap
      have hroom : ∀ q, len * inf.size ≤ q → q < cap * inf.size → G b (off + q) = .slot t 0 := fun q h1 h2 => hSp rfl q h1 h2
      have hwr : Wr G w b (off + len * inf.size) news := ⟨fun q hq => by
        rw [hs.size] at hq
        rw [Nat.add_assoc, hroom _ (by omega) (by rw [Nat.add_mul] at hcz; omega)]; rfl, hs.one⟩
      have hsub := roomG_sub G t b (off + len * inf.size) (off + (len + m) * inf.size)
      have hk : Keeps G w (roomG G t b (off + len * inf.size) (off + (len + m) * inf.size)) (w.setCells b (off + len * inf.size) news) := fun b' o' h => ⟨hsub.frz _ _ h, (hwr.keeps b' o' h).2⟩
      refine ⟨_, _, roomG G t b (off + len * inf.size) (off + (len + m) * inf.size), run_append_room (ty := ty) ht hinf h2 hs hi.wi hcap hwr, hwr.trans.trans (hsub.trans fun b o e => ((hwr.wi hi.wi).own b o e).2), ⟨hi.size, ?_, ?_, hsub.wi (hwr.wi hi.wi)⟩, ?_, ?_⟩
      · intro i
        unfold Fr.set
        cases hb : Nat.beq i t with
        | true => have := Nat.eq_of_beq_eq_true hb; subst this; exact ⟨((hi.fr i).1.keep hk).un, SpV_un ..⟩
        | false =>
          have hne : i ≠ t := fun e => by rw [e, Nat.beq_refl] at hb; cases hb
          exact ⟨(hi.fr i).1.keep hk, (hi.fr i).2.map fun c b o e => by unfold roomG; rw [e]; simp [hne]⟩
      · refine ⟨hi.br.len, fun id b' blk j c h1 h2 h3 => ?_⟩
        obtain ⟨k1, v, k2, k3, k4⟩ := hi.br.cell id b' blk j c h1 h2 h3
        refine ⟨by unfold roomG; rw [k1]; simp, v, ?_, k3.keep hk, k4.map fun b o e => by unfold roomG; rw [e]; simp⟩
        by_cases hq : b' ≠ b ∨ j < off + len * inf.size ∨ off + len * inf.size + news.length ≤ j
        · rw [Wr.out hq]; exact k2
        · have hb : b' = b := by omega
          subst hb
          have := hroom (j - off) (by omega) (by rw [hs.size] at hq; rw [Nat.add_mul] at hcz; omega)
          rw [show off + (j - off) = j by omega, k1] at this
          cases this
      · refine .sl _ _ _ _ _ (some (b, off)) cap (fun q => if q < len * inf.size then vs q else news.getD (q - len * inf.size) undef) hcap (by simp) hap (fun b' o' hb q hq => ?_) (fun i j c hi' hc => ?_)
        · simp only [Option.some.injEq, Prod.mk.injEq] at hb
          obtain ⟨rfl, rfl⟩ := hb
          by_cases h : q < len * inf.size
          · rw [if_pos h]
            have := e4 b off rfl q h
            exact ⟨hsub.frz _ _ this.1, (hwr.keeps _ _ this.1).2.trans this.2⟩
          · rw [if_neg h]
            have h' := hroom q (by omega) (by omega)
            refine ⟨by unfold roomG; rw [if_pos h', if_pos (by omega)], ?_⟩
            have hq2 : q - len * inf.size < news.length := by rw [hs.size]; rw [Nat.add_mul] at hq; omega
            have := hwr.at_ hi.wi hq2
            rw [show off + len * inf.size + (q - len * inf.size) = off + q by omega] at this
            simpa [List.getD_eq_getElem?_getD, List.getElem?_eq_getElem hq2] using this
        · rcases Nat.lt_or_ge i len with h | h
          · rw [apEl_lt h] at hc
            have hj : j < inf.size := by rw [← e3 i h]; exact (List.getElem?_eq_some_iff.1 hc).1
            have hq : i * inf.size + j < len * inf.size := by
              have : (i + 1) * inf.size ≤ len * inf.size := Nat.mul_le_mul_right _ h
              rw [Nat.succ_mul] at this; omega
            rw [if_pos hq]
            exact (e5 i j c h hc).keep hk
          · rw [apEl_ge h] at hc
            have hj : j < inf.size := by rw [← hs.elsz _ (show i - len < m by omega)]; exact (List.getElem?_eq_some_iff.1 hc).1
            have hii : i * inf.size = len * inf.size + (i - len) * inf.size := by rw [← Nat.add_mul]; congr 1; omega
            rw [if_neg (by omega), show i * inf.size + j - len * inf.size = (i - len) * inf.size + j by omega]
            have hq2 : (i - len) * inf.size + j < news.length := by
              rw [hs.size]
              have : (i - len + 1) * inf.size ≤ m * inf.size := Nat.mul_le_mul_right _ (by omega)
              rw [Nat.succ_mul] at this; omega
            have := (hs.val (i - len) j c news[(i - len) * inf.size + j] (by omega) hc (List.getElem?_eq_getElem hq2)).keep hk
            simpa [List.getD_eq_getElem?_getD, List.getElem?_eq_getElem hq2] using this
      · refine SpV_of_Sp ?_ (by simp)
        intro _ q h1 h2
        have h' := hroom q (by rw [Nat.add_mul] at h1; omega) h2
        show roomG _ _ _ _ _ b (off + q) = _
        unfold roomG
        rw [if_pos h', if_neg (by omega)]
    · refine grow (by omega) ((List.range (len * inf.size)).map vs) (by simp) (fun v hv => ?_) (fun i j c v h1 h2 h3 => ?_) ?_
      · obtain ⟨q, hq, rfl⟩ := List.mem_map.1 hv
        have := e4 b off rfl q (by simpa using hq)
        exact hi.wi.one _ _ _ (.inl this.1) this.2
      · have hj : j < inf.size := by rw [← e3 i h1]; exact (List.getElem?_eq_some_iff.1 h2).1
        have hq : i * inf.size + j < len * inf.size := by
          have : (i + 1) * inf.size ≤ len * inf.size := Nat.mul_le_mul_right _ h1
          rw [Nat.succ_mul] at this; omega
        simp [hq] at h3
        subst h3
        exact e5 i j c h1 h2
      · have := run_loadCells (P := P) w.drew (mkA b off) (len * inf.size) vs (fun q hq => by rw [mkA_add]; exact (e4 b off rfl q hq).2)
        simpa [Builtin.firstCells] using this
end Go.Am
