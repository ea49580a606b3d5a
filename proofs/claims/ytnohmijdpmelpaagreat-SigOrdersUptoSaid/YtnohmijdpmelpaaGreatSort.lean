/- Slices.SortFunc and slices.Compare at pairs of texts. -/
import Derived.Shelf.SlSortCmp.NoneTotal
import Derived.Shelf.SlSortCmp.Whole1
import Derived.Test.YtnohmijdpmelpaaGreatRow
import Derived.BigQuiet
import Derived.Deep.QuietTactic
import Derived.WalkSpells
import Derived.Laws.Cover1
namespace Go.Proofs
open Go.Shelf
def Tryz.sort55_ren : Go.Shelf.Ren := ⟨fun | 6 => 55 | 15 => 99 | 14 => 98 | 28 => 138 | 29 => 139 | 20 => 130 | 21 => 131 | 22 => 132 | 23 => 133 | 24 => 134 | 25 => 135 | 26 => 136 | 27 => 137 | 46 => 152 | 47 => 153 | 48 => 154 | 49 => 155 | 50 => 156 | 57 => 158 | n => n, fun | 22 => 90 | 24 => 26 | 25 => 92 | 3 => 3 | 39 => 106 | 0 => 0 | 53 => 107 | 55 => 144 | 4 => 4 | 46 => 162 | 45 => 161 | 50 => 68 | 5 => 5 | 9 => 9 | 66 => 172 | 70 => 176 | 76 => 180 | 77 => 181 | n => n, fun | n => n⟩
theorem Tryz.sort55 : Go.Proofs.SlLaysF.n6 Tryz.prog Tryz.sort55_ren := {
  mixed := by kernel_rfl
  f6 := ⟨Tryz.f55.name, by decide, Tryz.func55.trans (congrArg some (by kernel_rfl))⟩
  f14 := ⟨Tryz.f98.name, by decide, Tryz.func98.trans (congrArg some (by kernel_rfl))⟩
  f15 := Tryz.func99.trans (congrArg some (by kernel_rfl))
  f20 := ⟨Tryz.f130.name, by decide, Tryz.func130.trans (congrArg some (by kernel_rfl))⟩
  f21 := ⟨Tryz.f131.name, by decide, Tryz.func131.trans (congrArg some (by kernel_rfl))⟩
  f22 := ⟨Tryz.f132.name, by decide, Tryz.func132.trans (congrArg some (by kernel_rfl))⟩
  f23 := ⟨Tryz.f133.name, by decide, Tryz.func133.trans (congrArg some (by kernel_rfl))⟩
  f24 := ⟨Tryz.f134.name, by decide, Tryz.func134.trans (congrArg some (by kernel_rfl))⟩
  f25 := ⟨Tryz.f135.name, by decide, Tryz.func135.trans (congrArg some (by kernel_rfl))⟩
  f26 := ⟨Tryz.f136.name, by decide, Tryz.func136.trans (congrArg some (by kernel_rfl))⟩
  f27 := ⟨Tryz.f137.name, by decide, Tryz.func137.trans (congrArg some (by kernel_rfl))⟩
  f28 := Tryz.func138.trans (congrArg some (by kernel_rfl))
  f29 := Tryz.func139.trans (congrArg some (by kernel_rfl))
  f46 := ⟨Tryz.f152.name, by decide, Tryz.func152.trans (congrArg some (by kernel_rfl))⟩
  f47 := Tryz.func153.trans (congrArg some (by kernel_rfl))
  f48 := Tryz.func154.trans (congrArg some (by kernel_rfl))
  f49 := ⟨Tryz.f155.name, by decide, Tryz.func155.trans (congrArg some (by kernel_rfl))⟩
  f50 := ⟨Tryz.f156.name, by decide, Tryz.func156.trans (congrArg some (by kernel_rfl))⟩
  f57 := ⟨Tryz.f158.name, by decide, Tryz.func158.trans (congrArg some (by kernel_rfl))⟩
  t0 := Tryz.underlying0
  a0 := Tryz.isAgg0
  z0 := Tryz.sizeOf0
  v0 := Tryz.zeroValue0
  t3 := Tryz.underlying3
  a3 := Tryz.isAgg3
  z3 := Tryz.sizeOf3
  v3 := Tryz.zeroValue3
  t4 := Tryz.underlying4
  a4 := Tryz.isAgg4
  z4 := Tryz.sizeOf4
  v4 := Tryz.zeroValue4
  t5 := Tryz.underlying5
  a5 := Tryz.isAgg5
  z5 := Tryz.sizeOf5
  v5 := Tryz.zeroValue5
  t9 := Tryz.underlying9
  a9 := Tryz.isAgg9
  z9 := Tryz.sizeOf9
  v9 := Tryz.zeroValue9
  t22 := Tryz.underlying90
  a22 := Tryz.isAgg90
  z22 := Tryz.sizeOf90
  v22 := Tryz.zeroValue90
  a24 := Tryz.isAgg26
  z24 := Tryz.sizeOf26
  t25 := Tryz.underlying92
  a25 := Tryz.isAgg92
  z25 := Tryz.sizeOf92
  v25 := Tryz.zeroValue92
  t39 := Tryz.underlying106
  a39 := Tryz.isAgg106
  z39 := Tryz.sizeOf106
  v39 := Tryz.zeroValue106
  t45 := Tryz.underlying161
  a45 := Tryz.isAgg161
  z45 := Tryz.sizeOf161
  v45 := Tryz.zeroValue161
  t46 := Tryz.underlying162
  a46 := Tryz.isAgg162
  z46 := Tryz.sizeOf162
  v46 := Tryz.zeroValue162
  t50 := Tryz.underlying68
  a50 := Tryz.isAgg68
  z50 := Tryz.sizeOf68
  v50 := Tryz.zeroValue68
  t53 := Tryz.underlying107
  a53 := Tryz.isAgg107
  z53 := Tryz.sizeOf107
  v53 := Tryz.zeroValue107
  t55 := Tryz.underlying144
  a55 := Tryz.isAgg144
  z55 := Tryz.sizeOf144
  v55 := Tryz.zeroValue144
  t66 := Tryz.underlying172
  a66 := Tryz.isAgg172
  z66 := Tryz.sizeOf172
  v66 := Tryz.zeroValue172
  t70 := Tryz.underlying176
  a70 := Tryz.isAgg176
  z70 := Tryz.sizeOf176
  v70 := Tryz.zeroValue176
  t76 := Tryz.underlying180
  a76 := Tryz.isAgg180
  z76 := Tryz.sizeOf180
  v76 := Tryz.zeroValue180
  t77 := Tryz.underlying181
  a77 := Tryz.isAgg181
  z77 := Tryz.sizeOf181
  v77 := Tryz.zeroValue181 }
end Go.Proofs
set_option maxRecDepth 100000
set_option linter.unusedVariables false
set_option linter.unusedSimpArgs false
set_option linter.unusedSectionVars false
namespace Go.Proofs.YtnohmijdpmelpaaGreat
open Go Go.Am Go.RowKit
attribute [local go_sem] Oper.semAt_some
def cmpL (a b : List UInt8) : Int := if ltL a b = true then -1 else if a = b then 0 else 1
theorem nan140 (x : ByteArray) (w : World) : Calls Tryz.prog 140 #[.string x] w fun e w' => e = .returned (.bool false) ∧ w' = w := by
  have hx : (x.toList == x.toList) = true := by simp
  go_enter Tryz.func140, Tryz.ntmps140
  go_wp2
  go_ret
  simp
theorem cmp100 (a b : List UInt8) (w : World) : Calls Tryz.prog 100 #[.string ⟨a.toArray⟩, .string ⟨b.toArray⟩] w fun e w' => e = .returned (.int .i64 (cmpL a b)) ∧ w' = w := by
  obtain ⟨A, hA⟩ : ∃ A : ByteArray, A = ⟨a.toArray⟩ := ⟨_, rfl⟩
  obtain ⟨B, hB⟩ : ∃ A : ByteArray, A = ⟨b.toArray⟩ := ⟨_, rfl⟩
  have eA : A.toList = a := by rw [hA]; simp
  have eB : B.toList = b := by rw [hB]; simp
  rw [← hA, ← hB]
  clear hA hB
  have K140 : Hid (∀ x w, Calls Tryz.prog 140 #[.string x] w fun e w' => e = .returned (.bool false) ∧ w' = w) := nan140
  cases h1 : ltL a b with
  | true =>
    have f1 : Op.bytesLess A.toList B.toList = true := by rw [eA, eB]; exact h1
    have hc : Hid (cmpL a b = -1) := by unfold cmpL; rw [if_pos h1]; rfl
    clear eA eB h1
    go_enter Tryz.func100, Tryz.ntmps100
    go_wp2_with (go_at_call 140; refine (K140.out _ _).mono ?_; rintro e w' ⟨rfl, rfl⟩)
    go_ret
    rw [hc.out]; exact ⟨rfl, rfl⟩
  | false =>
    have f1 : Op.bytesLess A.toList B.toList = false := by rw [eA, eB]; exact h1
    by_cases h2 : a = b
    · have f2 : (A.toList == B.toList) = true := by rw [eA, eB, h2]; simp
      have hc : Hid (cmpL a b = 0) := by unfold cmpL; rw [if_neg (by rw [h1]; exact Bool.false_ne_true), if_pos h2]; rfl
      clear eA eB h1 h2
      go_enter Tryz.func100, Tryz.ntmps100
      go_wp2_with (go_at_call 140; refine (K140.out _ _).mono ?_; rintro e w' ⟨rfl, rfl⟩)
      go_ret
      rw [hc.out]; exact ⟨rfl, rfl⟩
    · have f2 : (A.toList == B.toList) = false := by rw [eA, eB, beq_eq_false_iff_ne]; exact h2
      have hc : Hid (cmpL a b = 1) := by unfold cmpL; rw [if_neg (by rw [h1]; exact Bool.false_ne_true), if_neg h2]; rfl
      clear eA eB h1 h2
      go_enter Tryz.func100, Tryz.ntmps100
      go_wp2_with (go_at_call 140; refine (K140.out _ _).mono ?_; rintro e w' ⟨rfl, rfl⟩)
      go_ret
      rw [hc.out]; exact ⟨rfl, rfl⟩
def cmpP (p q : Hd) : Int := if cmpL p.1 q.1 = 0 then cmpL p.2 q.2 else cmpL p.1 q.1
set_option maxHeartbeats 1000000 in
theorem cmp56 (p q : Hd) (b1 b2 : Nat) (W : World) (h1 : W.cell? ⟨b1, 0, none⟩ = some (.string ⟨p.1.toArray⟩)) (h2 : W.cell? ⟨b1, 1, none⟩ = some (.string ⟨p.2.toArray⟩)) (h3 : W.cell? ⟨b2, 0, none⟩ = some (.string ⟨q.1.toArray⟩)) (h4 : W.cell? ⟨b2, 1, none⟩ = some (.string ⟨q.2.toArray⟩)) :
    Calls Tryz.prog 56 #[.slice (some ⟨b1, 0, none⟩) 2 2, .slice (some ⟨b2, 0, none⟩) 2 2] W fun e w' => e = .returned (.int .i64 (cmpP p q)) ∧ w' = W := by
  have KA := cmp100 p.1 q.1
  have KB := cmp100 p.2 q.2
  obtain ⟨r, hr⟩ : ∃ r, r = cmpP p q := ⟨_, rfl⟩
  rw [← hr]
  obtain ⟨c1, hc1⟩ : ∃ c, c = cmpL p.1 q.1 := ⟨_, rfl⟩
  obtain ⟨c2, hc2⟩ : ∃ c, c = cmpL p.2 q.2 := ⟨_, rfl⟩
  have HC : Hid (r = if c1 = 0 then c2 else c1) := by rw [hr, hc1, hc2]; rfl
  rw [← hc1] at KA
  rw [← hc2] at KB
  clear hr hc1 hc2
  generalize (⟨p.1.toArray⟩ : ByteArray) = P1 at *
  generalize (⟨p.2.toArray⟩ : ByteArray) = P2 at *
  generalize (⟨q.1.toArray⟩ : ByteArray) = Q1 at *
  generalize (⟨q.2.toArray⟩ : ByteArray) = Q2 at *
  have KA' : Hid (∀ w, Calls Tryz.prog 100 #[.string P1, .string Q1] w fun e w' => e = .returned (.int .i64 c1) ∧ w' = w) := KA
  have KB' : Hid (∀ w, Calls Tryz.prog 100 #[.string P2, .string Q2] w fun e w' => e = .returned (.int .i64 c2) ∧ w' = w) := KB
  clear KA KB
  go_enter Tryz.func56, Tryz.ntmps56
  go_wp2
  go_loopw [11] (fun v wr => ∃ (i : Nat), v = .int .i64 i ∧ i ≤ 2 ∧ wr = W ∧ (0 < i → c1 = 0) ∧ (1 < i → c2 = 0))
    (fun v _ => match v with | .int _ i => 2 - i.toNat | _ => 0)
  case atStart => exact ⟨0, rfl, by omega, rfl, by omega, by omega⟩
  case round =>
    obtain ⟨i, rfl, hi, rfl, g1, g2⟩ := hrel
    match i, hi with
    | 0, _ =>
      clear g1 g2
      by_cases hz : c1 = 0
      · subst hz
        have HC0 := HC
        clear HC KB'
        go_wp2_with (go_at_call 100; refine (KA'.out _).mono ?_; rintro e w' ⟨rfl, rfl⟩; clear KA')
        exact ⟨⟨1, by simp, by omega, by simp, by simp, by omega⟩, by simp⟩
      · have hb : (c1 != 0) = true := by rw [bne_iff_ne]; exact hz
        have HC0 : Hid (r = c1) := by rw [HC.out, if_neg hz]; rfl
        clear HC KB' hz
        go_wp2_with (go_at_call 100; refine (KA'.out _).mono ?_; rintro e w' ⟨rfl, rfl⟩; clear KA')
        go_ret
        rw [HC0.out]; exact ⟨rfl, rfl⟩
    | 1, _ =>
      have hz := g1 (by omega)
      subst hz
      clear g1 g2 KA'
      by_cases hz : c2 = 0
      · subst hz
        have HC0 := HC
        clear HC
        go_wp2_with (go_at_call 100; refine (KB'.out _).mono ?_; rintro e w' ⟨rfl, rfl⟩; clear KB')
        exact ⟨⟨2, by simp, by omega, by simp, by simp, by simp⟩, by simp⟩
      · have hb : (c2 != 0) = true := by rw [bne_iff_ne]; exact hz
        have HC0 : Hid (r = c2) := by rw [HC.out, if_pos rfl]; rfl
        clear HC hz
        go_wp2_with (go_at_call 100; refine (KB'.out _).mono ?_; rintro e w' ⟨rfl, rfl⟩; clear KB')
        go_ret
        rw [HC0.out]; exact ⟨rfl, rfl⟩
    | 2, _ =>
      have hz := g1 (by omega)
      have hz2 := g2 (by omega)
      subst hz
      subst hz2
      have HC0 : Hid (r = 0) := by rw [HC.out, if_pos rfl]; rfl
      clear g1 g2 KA' KB' HC
      go_wp2
      go_ret
      rw [HC0.out]; exact ⟨rfl, rfl⟩
end Go.Proofs.YtnohmijdpmelpaaGreat
set_option maxRecDepth 100000
set_option linter.unusedVariables false
set_option linter.unusedSimpArgs false
namespace Go.Proofs.YtnohmijdpmelpaaGreat
open Go Go.Am Go.RowKit Go.Sort
theorem cmpL_neg (a b : List UInt8) : cmpL a b < 0 ↔ ltL a b = true := by
  unfold cmpL
  by_cases h : ltL a b = true
  · rw [if_pos h]; simp [h]
  · rw [if_neg h]; split <;> simp_all
theorem cmpL_zero (a b : List UInt8) : cmpL a b = 0 ↔ a = b := by
  unfold cmpL
  by_cases h : ltL a b = true
  · rw [if_pos h]
    constructor
    · intro e; omega
    · rintro rfl; rw [ltL_irr] at h; cases h
  · rw [if_neg h]; split <;> simp_all
theorem lt_cmpP (p q : Hd) : ltOf cmpP p q = belowP p q := by
  have : (cmpP p q < 0) ↔ belowP p q = true := by
    unfold cmpP
    rw [belP_iff]
    by_cases h : p.1 = q.1
    · rw [if_pos ((cmpL_zero _ _).2 h), cmpL_neg]
      constructor
      · exact fun g => .inr ⟨h, g⟩
      · rintro (g | ⟨_, g⟩)
        · rw [h, ltL_irr] at g; cases g
        · exact g
    · rw [if_neg (fun e => h ((cmpL_zero _ _).1 e)), cmpL_neg]
      constructor
      · exact .inl
      · rintro (g | ⟨e, _⟩)
        · exact g
        · exact absurd e h
  unfold ltOf
  cases hb : belowP p q with
  | true => rw [decide_eq_true (this.2 hb)]
  | false => rw [decide_eq_false (fun e => by rw [this.1 e] at hb; cases hb)]
section
variable {n : Nat} (l : List Hd)
abbrev cfI (l : List Hd) (n : Nat) (i j : Fin n) : Int := cmpP (l.getD i.val ([], [])) (l.getD j.val ([], []))
theorem ltI (i j : Fin n) : ltOf (cfI l n) i j = belowP (l.getD i.val ([], [])) (l.getD j.val ([], [])) := lt_cmpP _ _
theorem swoI : SWO (ltOf (cfI l n)) where
  irrefl x := by rw [ltI]; exact belP_irr _
  trans x y z h1 h2 := by rw [ltI] at *; exact belP_tr h1 h2
  ntrans x y z h1 h2 := by rw [ltI] at *; exact belP_ntr h1 h2
end
theorem sortWorld_heap {α : Type} [Inhabited α] (enc : α → Value) (w : World) (blk m : Nat) (dk : Array α) (os : Array Obj) {k : Nat} (hk : k < w.heap.size) (hb : k ≠ blk) : (sortWorld enc w blk 0 m dk os).heap[k]? = w.heap[k]? := by
  unfold sortWorld
  rw [heap_grow_old _ _ (by rw [size_putRow]; exact hk)]
  show (w.heap.modify blk _)[k]? = _
  rw [Array.getElem?_modify, if_neg (fun e => hb e.symm)]
theorem sortWorld_grown {α : Type} [Inhabited α] (enc : α → Value) (w : World) (blk m : Nat) (dk : Array α) (os : Array Obj) : w.grownBy (sortWorld enc w blk 0 m dk os) (some blk) := by
  refine ⟨rfl, rfl, rfl, ?_, fun k hk hb => sortWorld_heap enc w blk m dk os hk (fun e => hb (by rw [e]))⟩
  unfold sortWorld grow
  simp
theorem map_getD {n : Nat} (l : List Hd) (hn : l.length = n) (is : List (Fin n)) : is.map (fun i => l.getD i.val ([], [])) = is.map (fun i => l[i.val]'(by rw [hn]; exact i.isLt)) :=
  List.map_congr_left fun i _ => by rw [List.getD_eq_getElem?_getD, List.getElem?_eq_getElem (by rw [hn]; exact i.isLt)]; rfl
theorem all_fin {n : Nat} (l : List Hd) (hn : l.length = n) : (List.ofFn (fun i : Fin n => i)).map (fun i => l.getD i.val ([], [])) = l := by
  apply List.ext_getElem
  · simp [hn]
  · intro i h1 h2
    simp [List.getD_eq_getElem?_getD, List.getElem?_eq_getElem h2]
set_option maxHeartbeats 1000000 in
theorem sort55 {W : World} {g cap n : Nat} {ty : TypeId} {bs : Nat → Nat} {l : List Hd} (hn : l.length = n) (hpos : 0 < n) (hsz : n < 4611686018427387904)
    (hc : ∀ j, j < n → W.cell? ⟨g, j, none⟩ = some (.slice (some ⟨bs j, 0, none⟩) 2 2) ∧ W.frozen? ⟨g, j, none⟩ = false)
    (hb : ∀ j, j < n → bs j ≠ g ∧ W.heap[bs j]? = some (.cells #[.string ⟨(l.getD j ([], [])).1.toArray⟩, .string ⟨(l.getD j ([], [])).2.toArray⟩] ty (0, 0))) :
    Calls Tryz.prog 55 #[.slice (some ⟨g, 0, none⟩) n cap, .func (.func 56) #[] #[]] W fun e w' => e = .returned (.tuple #[]) ∧ W.grownBy w' (some g) ∧ ∃ bs' : Nat → Nat,
      ∀ j, j < n → w'.cell? ⟨g, j, none⟩ = some (.slice (some ⟨bs' j, 0, none⟩) 2 2) ∧ w'.heap[bs' j]? = some (.cells #[.string ⟨((sortP l).getD j ([], [])).1.toArray⟩, .string ⟨((sortP l).getD j ([], [])).2.toArray⟩] ty (0, 0)) := by
  letI : Inhabited (Fin n) := ⟨⟨0, hpos⟩⟩
  obtain ⟨enc, henc⟩ : ∃ enc : Fin n → Value, enc = fun i => .slice (some ⟨bs i.val, 0, none⟩) 2 2 := ⟨_, rfl⟩
  obtain ⟨d, hd⟩ : ∃ d : Array (Fin n), d = Array.ofFn fun i => i := ⟨_, rfl⟩
  have hds : d.size = n := by rw [hd]; simp
  have hdj : ∀ j (h : j < n), d[j]! = ⟨j, h⟩ := fun j h => by
    rw [getElem!_pos d j (by rw [hds]; exact h)]
    simp [hd]
  have eg : ∀ args w, (callFunc 56 args).run Tryz.prog w = .ok (.enter 56 args) w := enters_of Tryz.func56 (by kernel_rfl) rfl
  have hH : Holds enc W g 0 d := fun j hj => by
    rw [hds] at hj
    rw [hdj j hj, henc, Nat.zero_add]
    exact hc j hj
  have hg : g < W.heap.size := World.block_lt_of_cell? _ _ (hc 0 hpos).1
  have hcmp : CmpLays1 Tryz.prog 56 #[] enc (cfI l n) g 0 d.size W := by
    intro m os dk hdk x y
    have cell : ∀ i : Fin n, (sortWorld enc W g 0 m dk os).cell? ⟨bs i.val, 0, none⟩ = some (.string ⟨(l.getD i.val ([], [])).1.toArray⟩) ∧ (sortWorld enc W g 0 m dk os).cell? ⟨bs i.val, 1, none⟩ = some (.string ⟨(l.getD i.val ([], [])).2.toArray⟩) := fun i => by
      have h := hb i.val i.isLt
      have h2 := (sortWorld_heap enc W g m dk os (Array.getElem?_eq_some_iff.1 h.2).1 h.1).trans h.2
      constructor <;> simp [World.cell?, h2]
    have := cmp56 (l.getD x.val ([], [])) (l.getD y.val ([], [])) (bs x.val) (bs y.val) _ (cell x).1 (cell x).2 (cell y).1 (cell y).2
    rw [henc] at this ⊢
    refine this.mono ?_
    rintro e w' ⟨rfl, rfl⟩
    exact ⟨rfl, 0, #[], by simp [grow, World.drewN]⟩
  have key := Any.slices_SortFunc Tryz.sort55 enc (fun i => by rw [henc]; rfl) (cfI l n) (swoI l) 56 #[] g 0 cap d W eg hcmp hH hg (by rw [hds]; exact hsz)
  rw [hds] at key
  refine Calls.mono key ?_
  rintro e w' ⟨rfl, d', k, os, hp, hs, rfl⟩
  refine ⟨rfl, sortWorld_grown enc W g k d' os, fun j => bs (d'[j]!).val, fun j hj => ?_⟩
  have hds' : d'.size = n := hp.1.trans hds
  have hHp := holds_putRow enc (Sort.ahead W k) g 0 d d' (fun j hj => hH j hj) (by rw [hds', hds])
  have hcell : (sortWorld enc W g 0 k d' os).cell? ⟨g, j, none⟩ = some (enc d'[j]!) := by
    have h := (hHp j (by rw [hds']; exact hj)).1
    rw [Nat.zero_add] at h
    unfold sortWorld
    rw [World.cell?_of_block (heap_grow_old _ _ (by rw [size_putRow]; exact hg))]
    exact h
  have hl' : (d'.toList.map fun i => l.getD i.val ([], [])) = sortP l := by
    refine sorts ?_ ?_
    · have h := hp.2.2
      have x1 : d'.extract 0 n = d' := Array.extract_eq_self_of_le (by rw [hds']; exact Nat.le_refl _)
      have x2 : d.extract 0 n = d := Array.extract_eq_self_of_le (by rw [hds]; exact Nat.le_refl _)
      rw [x1, x2] at h
      have h2 := h.map fun i : Fin n => l.getD i.val ([], [])
      rw [hd, Array.toList_ofFn, all_fin l hn] at h2
      exact h2
    · rw [List.pairwise_iff_getElem]
      intro i j hi hj hij
      rw [List.length_map, Array.length_toList, hds'] at hi hj
      have h := hs i j (Nat.zero_le _) hij hj
      rw [ltI, getElem!_pos d' i (by rw [hds']; exact hi), getElem!_pos d' j (by rw [hds']; exact hj)] at h
      simp only [List.getElem_map, Array.getElem_toList]
      exact h
  have hval : l.getD (d'[j]!).val ([], []) = (sortP l).getD j ([], []) := by
    rw [← hl', List.getD_eq_getElem?_getD (l := List.map _ _), List.getElem?_map, Array.getElem?_toList, Array.getElem?_eq_getElem (by rw [hds']; exact hj), getElem!_pos d' j (by rw [hds']; exact hj)]
    rfl
  refine ⟨by rw [hcell, henc], ?_⟩
  have h := hb (d'[j]!).val (d'[j]!).isLt
  rw [← hval]
  exact (sortWorld_heap enc W g k d' os (Array.getElem?_eq_some_iff.1 h.2).1 h.1).trans h.2
end Go.Proofs.YtnohmijdpmelpaaGreat
