/- Slices.SortFunc and slices.Compare at pairs of texts; what sig.query keeps in memory. -/
import Derived.Shelf.SlSortCmp.NoneTotal
import Derived.Shelf.SlSortCmp.Whole1
import Derived.Test.YtnohmijdpmelpaaGreatRow
import Derived.BigQuiet
import Derived.Deep.QuietTactic
import Derived.WalkSpells
import Derived.Laws.Cover1
import Derived.Test.YtnohmijdpmelpaaGreatRqw
import Derived.Test.YtnohmijdpmelpaaGreatJoin
import Derived.Deep.RegionLaw
namespace Go.Proofs
open Go.Shelf
def Tryz.sort55_ren : Go.Shelf.Ren := ⟨fun | 6 => 55 | 15 => 99 | 14 => 98 | 28 => 138 | 29 => 139 | 20 => 130 | 21 => 131 | 22 => 132 | 23 => 133 | 24 => 134 | 25 => 135 | 26 => 136 | 27 => 137 | 46 => 152 | 47 => 153 | 48 => 154 | 49 => 155 | 50 => 156 | 57 => 158 | n => n, fun | 22 => 90 | 24 => 26 | 25 => 92 | 3 => 3 | 39 => 106 | 0 => 0 | 53 => 107 | 55 => 144 | 4 => 4 | 46 => 162 | 45 => 161 | 50 => 68 | 5 => 5 | 9 => 9 | 66 => 172 | 70 => 176 | 76 => 180 | 77 => 181 | n => n, fun | n => n⟩
theorem Tryz.sort55 : Go.Proofs.SlLaysF.n6 Tryz.prog Tryz.sort55_ren := {
  mixed := by kernel_rfl
  f6 := ⟨Tryz.f55.name, by decide, Tryz.func55.trans (congrArg some (by kernel_rfl))⟩
  f14 := ⟨Tryz.f98.name, by decide, Tryz.func98.trans (congrArg some (by kernel_rfl))⟩
  f15 := Tryz.func99.trans (congrArg some (by kernel_rfl))
  f20 := ⟨Tryz.f130.name, by decide, Tryz.func130.trans (congrArg some (by kernel_rfl))⟩
  f21 := ⟨Tryz.f131.name, by decide, Tryz.func131.trans (congrArg some (by kernel_rfl))⟩
  f22 := ⟨Tryz.f132.name, by decide, Tryz.func132.trans (congrArg some (by kernel_rfl))⟩
  f23 := ⟨Tryz.f133.name, by decide, Tryz.func133.trans (congrArg some (by kernel_rfl))⟩
  f24 := ⟨Tryz.f134.name, by decide, Tryz.func134.trans (congrArg some (by kernel_rfl))⟩
  f25 := ⟨Tryz.f135.name, by decide, Tryz.func135.trans (congrArg some (by kernel_rfl))⟩
  f26 := ⟨Tryz.f136.name, by decide, Tryz.func136.trans (congrArg some (by kernel_rfl))⟩
  f27 := ⟨Tryz.f137.name, by decide, Tryz.func137.trans (congrArg some (by kernel_rfl))⟩
  f28 := Tryz.func138.trans (congrArg some (by kernel_rfl))
  f29 := Tryz.func139.trans (congrArg some (by kernel_rfl))
  f46 := ⟨Tryz.f152.name, by decide, Tryz.func152.trans (congrArg some (by kernel_rfl))⟩
  f47 := Tryz.func153.trans (congrArg some (by kernel_rfl))
  f48 := Tryz.func154.trans (congrArg some (by kernel_rfl))
  f49 := ⟨Tryz.f155.name, by decide, Tryz.func155.trans (congrArg some (by kernel_rfl))⟩
  f50 := ⟨Tryz.f156.name, by decide, Tryz.func156.trans (congrArg some (by kernel_rfl))⟩
  f57 := ⟨Tryz.f158.name, by decide, Tryz.func158.trans (congrArg some (by kernel_rfl))⟩
  t0 := Tryz.underlying0
  a0 := Tryz.isAgg0
  z0 := Tryz.sizeOf0
  v0 := Tryz.zeroValue0
  t3 := Tryz.underlying3
  a3 := Tryz.isAgg3
  z3 := Tryz.sizeOf3
  v3 := Tryz.zeroValue3
  t4 := Tryz.underlying4
  a4 := Tryz.isAgg4
  z4 := Tryz.sizeOf4
  v4 := Tryz.zeroValue4
  t5 := Tryz.underlying5
  a5 := Tryz.isAgg5
  z5 := Tryz.sizeOf5
  v5 := Tryz.zeroValue5
  t9 := Tryz.underlying9
  a9 := Tryz.isAgg9
  z9 := Tryz.sizeOf9
  v9 := Tryz.zeroValue9
  t22 := Tryz.underlying90
  a22 := Tryz.isAgg90
  z22 := Tryz.sizeOf90
  v22 := Tryz.zeroValue90
  a24 := Tryz.isAgg26
  z24 := Tryz.sizeOf26
  t25 := Tryz.underlying92
  a25 := Tryz.isAgg92
  z25 := Tryz.sizeOf92
  v25 := Tryz.zeroValue92
  t39 := Tryz.underlying106
  a39 := Tryz.isAgg106
  z39 := Tryz.sizeOf106
  v39 := Tryz.zeroValue106
  t45 := Tryz.underlying161
  a45 := Tryz.isAgg161
  z45 := Tryz.sizeOf161
  v45 := Tryz.zeroValue161
  t46 := Tryz.underlying162
  a46 := Tryz.isAgg162
  z46 := Tryz.sizeOf162
  v46 := Tryz.zeroValue162
  t50 := Tryz.underlying68
  a50 := Tryz.isAgg68
  z50 := Tryz.sizeOf68
  v50 := Tryz.zeroValue68
  t53 := Tryz.underlying107
  a53 := Tryz.isAgg107
  z53 := Tryz.sizeOf107
  v53 := Tryz.zeroValue107
  t55 := Tryz.underlying144
  a55 := Tryz.isAgg144
  z55 := Tryz.sizeOf144
  v55 := Tryz.zeroValue144
  t66 := Tryz.underlying172
  a66 := Tryz.isAgg172
  z66 := Tryz.sizeOf172
  v66 := Tryz.zeroValue172
  t70 := Tryz.underlying176
  a70 := Tryz.isAgg176
  z70 := Tryz.sizeOf176
  v70 := Tryz.zeroValue176
  t76 := Tryz.underlying180
  a76 := Tryz.isAgg180
  z76 := Tryz.sizeOf180
  v76 := Tryz.zeroValue180
  t77 := Tryz.underlying181
  a77 := Tryz.isAgg181
  z77 := Tryz.sizeOf181
  v77 := Tryz.zeroValue181 }
end Go.Proofs
set_option maxRecDepth 100000
set_option linter.unusedVariables false
set_option linter.unusedSimpArgs false
set_option linter.unusedSectionVars false
namespace Go.Proofs.YtnohmijdpmelpaaGreat
open Go Go.Am Go.RowKit
attribute [local go_sem] Oper.semAt_some
def cmpL (a b : List UInt8) : Int := if ltL a b = true then -1 else if a = b then 0 else 1
theorem nan140 (x : ByteArray) (w : World) : Calls Tryz.prog 140 #[.string x] w fun e w' => e = .returned (.bool false) ∧ w' = w := by
  have hx : (x.toList == x.toList) = true := by simp
  go_enter Tryz.func140, Tryz.ntmps140
  go_wp2
  go_ret
  simp
theorem cmp100 (a b : List UInt8) (w : World) : Calls Tryz.prog 100 #[.string ⟨a.toArray⟩, .string ⟨b.toArray⟩] w fun e w' => e = .returned (.int .i64 (cmpL a b)) ∧ w' = w := by
  obtain ⟨A, hA⟩ : ∃ A : ByteArray, A = ⟨a.toArray⟩ := ⟨_, rfl⟩
  obtain ⟨B, hB⟩ : ∃ A : ByteArray, A = ⟨b.toArray⟩ := ⟨_, rfl⟩
  have eA : A.toList = a := by rw [hA]; simp
  have eB : B.toList = b := by rw [hB]; simp
  rw [← hA, ← hB]
  clear hA hB
  have K140 : Hid (∀ x w, Calls Tryz.prog 140 #[.string x] w fun e w' => e = .returned (.bool false) ∧ w' = w) := nan140
  cases h1 : ltL a b with
  | true =>
    have f1 : Op.bytesLess A.toList B.toList = true := by rw [eA, eB]; exact h1
    have hc : Hid (cmpL a b = -1) := by unfold cmpL; rw [if_pos h1]; rfl
    clear eA eB h1
    go_enter Tryz.func100, Tryz.ntmps100
    go_wp2_with (go_at_call 140; refine (K140.out _ _).mono ?_; rintro e w' ⟨rfl, rfl⟩)
    go_ret
    rw [hc.out]; exact ⟨rfl, rfl⟩
  | false =>
    have f1 : Op.bytesLess A.toList B.toList = false := by rw [eA, eB]; exact h1
    by_cases h2 : a = b
    · have f2 : (A.toList == B.toList) = true := by rw [eA, eB, h2]; simp
      have hc : Hid (cmpL a b = 0) := by unfold cmpL; rw [if_neg (by rw [h1]; exact Bool.false_ne_true), if_pos h2]; rfl
      clear eA eB h1 h2
      go_enter Tryz.func100, Tryz.ntmps100
      go_wp2_with (go_at_call 140; refine (K140.out _ _).mono ?_; rintro e w' ⟨rfl, rfl⟩)
      go_ret
      rw [hc.out]; exact ⟨rfl, rfl⟩
    · have f2 : (A.toList == B.toList) = false := by rw [eA, eB, beq_eq_false_iff_ne]; exact h2
      have hc : Hid (cmpL a b = 1) := by unfold cmpL; rw [if_neg (by rw [h1]; exact Bool.false_ne_true), if_neg h2]; rfl
      clear eA eB h1 h2
      go_enter Tryz.func100, Tryz.ntmps100
      go_wp2_with (go_at_call 140; refine (K140.out _ _).mono ?_; rintro e w' ⟨rfl, rfl⟩)
      go_ret
      rw [hc.out]; exact ⟨rfl, rfl⟩
def cmpP (p q : Hd) : Int := if cmpL p.1 q.1 = 0 then cmpL p.2 q.2 else cmpL p.1 q.1
set_option maxHeartbeats 1000000 in
theorem cmp56 (p q : Hd) (b1 b2 : Nat) (W : World) (h1 : W.cell? ⟨b1, 0, none⟩ = some (.string ⟨p.1.toArray⟩)) (h2 : W.cell? ⟨b1, 1, none⟩ = some (.string ⟨p.2.toArray⟩)) (h3 : W.cell? ⟨b2, 0, none⟩ = some (.string ⟨q.1.toArray⟩)) (h4 : W.cell? ⟨b2, 1, none⟩ = some (.string ⟨q.2.toArray⟩)) :
    Calls Tryz.prog 56 #[.slice (some ⟨b1, 0, none⟩) 2 2, .slice (some ⟨b2, 0, none⟩) 2 2] W fun e w' => e = .returned (.int .i64 (cmpP p q)) ∧ w' = W := by
  have KA := cmp100 p.1 q.1
  have KB := cmp100 p.2 q.2
  obtain ⟨r, hr⟩ : ∃ r, r = cmpP p q := ⟨_, rfl⟩
  rw [← hr]
  obtain ⟨c1, hc1⟩ : ∃ c, c = cmpL p.1 q.1 := ⟨_, rfl⟩
  obtain ⟨c2, hc2⟩ : ∃ c, c = cmpL p.2 q.2 := ⟨_, rfl⟩
  have HC : Hid (r = if c1 = 0 then c2 else c1) := by rw [hr, hc1, hc2]; rfl
  rw [← hc1] at KA
  rw [← hc2] at KB
  clear hr hc1 hc2
  generalize (⟨p.1.toArray⟩ : ByteArray) = P1 at *
  generalize (⟨p.2.toArray⟩ : ByteArray) = P2 at *
  generalize (⟨q.1.toArray⟩ : ByteArray) = Q1 at *
  generalize (⟨q.2.toArray⟩ : ByteArray) = Q2 at *
  have KA' : Hid (∀ w, Calls Tryz.prog 100 #[.string P1, .string Q1] w fun e w' => e = .returned (.int .i64 c1) ∧ w' = w) := KA
  have KB' : Hid (∀ w, Calls Tryz.prog 100 #[.string P2, .string Q2] w fun e w' => e = .returned (.int .i64 c2) ∧ w' = w) := KB
  clear KA KB
  go_enter Tryz.func56, Tryz.ntmps56
  go_wp2
  go_loopw [11] (fun v wr => ∃ (i : Nat), v = .int .i64 i ∧ i ≤ 2 ∧ wr = W ∧ (0 < i → c1 = 0) ∧ (1 < i → c2 = 0))
    (fun v _ => match v with | .int _ i => 2 - i.toNat | _ => 0)
  case atStart => exact ⟨0, rfl, by omega, rfl, by omega, by omega⟩
  case round =>
    obtain ⟨i, rfl, hi, rfl, g1, g2⟩ := hrel
    match i, hi with
    | 0, _ =>
      clear g1 g2
      by_cases hz : c1 = 0
      · subst hz
        have HC0 := HC
        clear HC KB'
        go_wp2_with (go_at_call 100; refine (KA'.out _).mono ?_; rintro e w' ⟨rfl, rfl⟩; clear KA')
        exact ⟨⟨1, by simp, by omega, by simp, by simp, by omega⟩, by simp⟩
      · have hb : (c1 != 0) = true := by rw [bne_iff_ne]; exact hz
        have HC0 : Hid (r = c1) := by rw [HC.out, if_neg hz]; rfl
        clear HC KB' hz
        go_wp2_with (go_at_call 100; refine (KA'.out _).mono ?_; rintro e w' ⟨rfl, rfl⟩; clear KA')
        go_ret
        rw [HC0.out]; exact ⟨rfl, rfl⟩
    | 1, _ =>
      have hz := g1 (by omega)
      subst hz
      clear g1 g2 KA'
      by_cases hz : c2 = 0
      · subst hz
        have HC0 := HC
        clear HC
        go_wp2_with (go_at_call 100; refine (KB'.out _).mono ?_; rintro e w' ⟨rfl, rfl⟩; clear KB')
        exact ⟨⟨2, by simp, by omega, by simp, by simp, by simp⟩, by simp⟩
      · have hb : (c2 != 0) = true := by rw [bne_iff_ne]; exact hz
        have HC0 : Hid (r = c2) := by rw [HC.out, if_pos rfl]; rfl
        clear HC hz
        go_wp2_with (go_at_call 100; refine (KB'.out _).mono ?_; rintro e w' ⟨rfl, rfl⟩; clear KB')
        go_ret
        rw [HC0.out]; exact ⟨rfl, rfl⟩
    | 2, _ =>
      have hz := g1 (by omega)
      have hz2 := g2 (by omega)
      subst hz
      subst hz2
      have HC0 : Hid (r = 0) := by rw [HC.out, if_pos rfl]; rfl
      clear g1 g2 KA' KB' HC
      go_wp2
      go_ret
      rw [HC0.out]; exact ⟨rfl, rfl⟩
end Go.Proofs.YtnohmijdpmelpaaGreat
set_option maxRecDepth 100000
set_option linter.unusedVariables false
set_option linter.unusedSimpArgs false
namespace Go.Proofs.YtnohmijdpmelpaaGreat
open Go Go.Am Go.RowKit Go.Sort
theorem cmpL_neg (a b : List UInt8) : cmpL a b < 0 ↔ ltL a b = true := by
  unfold cmpL
  by_cases h : ltL a b = true
  · rw [if_pos h]; simp [h]
  · rw [if_neg h]; split <;> simp_all
theorem cmpL_zero (a b : List UInt8) : cmpL a b = 0 ↔ a = b := by
  unfold cmpL
  by_cases h : ltL a b = true
  · rw [if_pos h]
    constructor
    · intro e; omega
    · rintro rfl; rw [ltL_irr] at h; cases h
  · rw [if_neg h]; split <;> simp_all
theorem lt_cmpP (p q : Hd) : ltOf cmpP p q = belowP p q := by
  have : (cmpP p q < 0) ↔ belowP p q = true := by
    unfold cmpP
    rw [belP_iff]
    by_cases h : p.1 = q.1
    · rw [if_pos ((cmpL_zero _ _).2 h), cmpL_neg]
      constructor
      · exact fun g => .inr ⟨h, g⟩
      · rintro (g | ⟨_, g⟩)
        · rw [h, ltL_irr] at g; cases g
        · exact g
    · rw [if_neg (fun e => h ((cmpL_zero _ _).1 e)), cmpL_neg]
      constructor
      · exact .inl
      · rintro (g | ⟨e, _⟩)
        · exact g
        · exact absurd e h
  unfold ltOf
  cases hb : belowP p q with
  | true => rw [decide_eq_true (this.2 hb)]
  | false => rw [decide_eq_false (fun e => by rw [this.1 e] at hb; cases hb)]
section
variable {n : Nat} (l : List Hd)
abbrev cfI (l : List Hd) (n : Nat) (i j : Fin n) : Int := cmpP (l.getD i.val ([], [])) (l.getD j.val ([], []))
theorem ltI (i j : Fin n) : ltOf (cfI l n) i j = belowP (l.getD i.val ([], [])) (l.getD j.val ([], [])) := lt_cmpP _ _
theorem swoI : SWO (ltOf (cfI l n)) where
  irrefl x := by rw [ltI]; exact belP_irr _
  trans x y z h1 h2 := by rw [ltI] at *; exact belP_tr h1 h2
  ntrans x y z h1 h2 := by rw [ltI] at *; exact belP_ntr h1 h2
end
theorem sortWorld_heap {α : Type} [Inhabited α] (enc : α → Value) (w : World) (blk m : Nat) (dk : Array α) (os : Array Obj) {k : Nat} (hk : k < w.heap.size) (hb : k ≠ blk) : (sortWorld enc w blk 0 m dk os).heap[k]? = w.heap[k]? := by
  unfold sortWorld
  rw [heap_grow_old _ _ (by rw [size_putRow]; exact hk)]
  show (w.heap.modify blk _)[k]? = _
  rw [Array.getElem?_modify, if_neg (fun e => hb e.symm)]
theorem sortWorld_grown {α : Type} [Inhabited α] (enc : α → Value) (w : World) (blk m : Nat) (dk : Array α) (os : Array Obj) : w.grownBy (sortWorld enc w blk 0 m dk os) (some blk) := by
  refine ⟨rfl, rfl, rfl, ?_, fun k hk hb => sortWorld_heap enc w blk m dk os hk (fun e => hb (by rw [e]))⟩
  unfold sortWorld grow
  simp
theorem all_fin {n : Nat} (l : List Hd) (hn : l.length = n) : (List.ofFn (fun i : Fin n => i)).map (fun i => l.getD i.val ([], [])) = l := by
  apply List.ext_getElem
  · simp [hn]
  · intro i h1 h2
    simp [List.getD_eq_getElem?_getD, List.getElem?_eq_getElem h2]
set_option maxHeartbeats 1000000 in
theorem sort55 {W : World} {g cap n : Nat} {ty : TypeId} {bs : Nat → Nat} {l : List Hd} (hn : l.length = n) (hpos : 0 < n) (hsz : n < 4611686018427387904)
    (hc : ∀ j, j < n → W.cell? ⟨g, j, none⟩ = some (.slice (some ⟨bs j, 0, none⟩) 2 2) ∧ W.frozen? ⟨g, j, none⟩ = false)
    (hb : ∀ j, j < n → bs j ≠ g ∧ W.heap[bs j]? = some (.cells #[.string ⟨(l.getD j ([], [])).1.toArray⟩, .string ⟨(l.getD j ([], [])).2.toArray⟩] ty (0, 0))) :
    Calls Tryz.prog 55 #[.slice (some ⟨g, 0, none⟩) n cap, .func (.func 56) #[] #[]] W fun e w' => e = .returned (.tuple #[]) ∧ W.grownBy w' (some g) ∧ ∃ bs' : Nat → Nat,
      ∀ j, j < n → w'.cell? ⟨g, j, none⟩ = some (.slice (some ⟨bs' j, 0, none⟩) 2 2) ∧ w'.heap[bs' j]? = some (.cells #[.string ⟨((sortP l).getD j ([], [])).1.toArray⟩, .string ⟨((sortP l).getD j ([], [])).2.toArray⟩] ty (0, 0)) := by
  letI : Inhabited (Fin n) := ⟨⟨0, hpos⟩⟩
  obtain ⟨enc, henc⟩ : ∃ enc : Fin n → Value, enc = fun i => .slice (some ⟨bs i.val, 0, none⟩) 2 2 := ⟨_, rfl⟩
  obtain ⟨d, hd⟩ : ∃ d : Array (Fin n), d = Array.ofFn fun i => i := ⟨_, rfl⟩
  have hds : d.size = n := by rw [hd]; simp
  have hdj : ∀ j (h : j < n), d[j]! = ⟨j, h⟩ := fun j h => by
    rw [getElem!_pos d j (by rw [hds]; exact h)]
    simp [hd]
  have eg : ∀ args w, (callFunc 56 args).run Tryz.prog w = .ok (.enter 56 args) w := enters_of Tryz.func56 (by kernel_rfl) rfl
  have hH : Holds enc W g 0 d := fun j hj => by
    rw [hds] at hj
    rw [hdj j hj, henc, Nat.zero_add]
    exact hc j hj
  have hg : g < W.heap.size := World.block_lt_of_cell? _ _ (hc 0 hpos).1
  have hcmp : CmpLays1 Tryz.prog 56 #[] enc (cfI l n) g 0 d.size W := by
    intro m os dk hdk x y
    have cell : ∀ i : Fin n, (sortWorld enc W g 0 m dk os).cell? ⟨bs i.val, 0, none⟩ = some (.string ⟨(l.getD i.val ([], [])).1.toArray⟩) ∧ (sortWorld enc W g 0 m dk os).cell? ⟨bs i.val, 1, none⟩ = some (.string ⟨(l.getD i.val ([], [])).2.toArray⟩) := fun i => by
      have h := hb i.val i.isLt
      have h2 := (sortWorld_heap enc W g m dk os (Array.getElem?_eq_some_iff.1 h.2).1 h.1).trans h.2
      constructor <;> simp [World.cell?, h2]
    have := cmp56 (l.getD x.val ([], [])) (l.getD y.val ([], [])) (bs x.val) (bs y.val) _ (cell x).1 (cell x).2 (cell y).1 (cell y).2
    rw [henc] at this ⊢
    refine this.mono ?_
    rintro e w' ⟨rfl, rfl⟩
    exact ⟨rfl, 0, #[], by simp [grow, World.drewN]⟩
  have key := Any.slices_SortFunc Tryz.sort55 enc (fun i => by rw [henc]; rfl) (cfI l n) (swoI l) 56 #[] g 0 cap d W eg hcmp hH hg (by rw [hds]; exact hsz)
  rw [hds] at key
  refine Calls.mono key ?_
  rintro e w' ⟨rfl, d', k, os, hp, hs, rfl⟩
  refine ⟨rfl, sortWorld_grown enc W g k d' os, fun j => bs (d'[j]!).val, fun j hj => ?_⟩
  have hds' : d'.size = n := hp.1.trans hds
  have hHp := holds_putRow enc (Sort.ahead W k) g 0 d d' (fun j hj => hH j hj) (by rw [hds', hds])
  have hcell : (sortWorld enc W g 0 k d' os).cell? ⟨g, j, none⟩ = some (enc d'[j]!) := by
    have h := (hHp j (by rw [hds']; exact hj)).1
    rw [Nat.zero_add] at h
    unfold sortWorld
    rw [World.cell?_of_block (heap_grow_old _ _ (by rw [size_putRow]; exact hg))]
    exact h
  have hl' : (d'.toList.map fun i => l.getD i.val ([], [])) = sortP l := by
    refine sorts ?_ ?_
    · have h := hp.2.2
      have x1 : d'.extract 0 n = d' := Array.extract_eq_self_of_le (by rw [hds']; exact Nat.le_refl _)
      have x2 : d.extract 0 n = d := Array.extract_eq_self_of_le (by rw [hds]; exact Nat.le_refl _)
      rw [x1, x2] at h
      have h2 := h.map fun i : Fin n => l.getD i.val ([], [])
      rw [hd, Array.toList_ofFn, all_fin l hn] at h2
      exact h2
    · rw [List.pairwise_iff_getElem]
      intro i j hi hj hij
      rw [List.length_map, Array.length_toList, hds'] at hi hj
      have h := hs i j (Nat.zero_le _) hij hj
      rw [ltI, getElem!_pos d' i (by rw [hds']; exact hi), getElem!_pos d' j (by rw [hds']; exact hj)] at h
      simp only [List.getElem_map, Array.getElem_toList]
      exact h
  have hval : l.getD (d'[j]!).val ([], []) = (sortP l).getD j ([], []) := by
    rw [← hl', List.getD_eq_getElem?_getD (l := List.map _ _), List.getElem?_map, Array.getElem?_toList, Array.getElem?_eq_getElem (by rw [hds']; exact hj), getElem!_pos d' j (by rw [hds']; exact hj)]
    rfl
  refine ⟨by rw [hcell, henc], ?_⟩
  have h := hb (d'[j]!).val (d'[j]!).isLt
  rw [← hval]
  exact (sortWorld_heap enc W g k d' os (Array.getElem?_eq_some_iff.1 h.2).1 h.1).trans h.2
end Go.Proofs.YtnohmijdpmelpaaGreat
set_option maxRecDepth 100000
set_option linter.unusedVariables false
set_option linter.unusedSimpArgs false
namespace Go.Proofs.YtnohmijdpmelpaaGreat
open Go Go.Am Go.RowKit
abbrev slV (b : Nat) : Value := .slice (some ⟨b, 0, none⟩) 2 2
abbrev pairO (p : Hd) : Obj := .cells #[.string ⟨p.1.toArray⟩, .string ⟨p.2.toArray⟩] 9 (0, 0)
structure St (w W : World) (v : Value) (ps : List Hd) (bs : List Nat) : Prop where
  below : Below w.heap.size w W
  row : W.ownsRow w.heap.size 26 1 v ps.length (bs.map slV)
  len : bs.length = ps.length
  at_ : ∀ j, j < ps.length → W.heap[bs.getD j 0]? = some (pairO (ps.getD j ([], [])))
theorem St.start (w : World) : St w w (.slice none 0 0) [] [] := ⟨Below.refl _ _, World.ownsRow_nil _ _ _ _, rfl, fun j h => by simp at h⟩
theorem own_keep {W W' : World} {N : Nat} {e : TypeId} {sz : Nat} {v : Value} {n : Nat} {xs : List Value} (h : W.ownsRow N e sz v n xs) (h' : Below W.heap.size W W') : W'.ownsRow N e sz v n xs := by
  refine ⟨h.1, ?_⟩
  rcases h.2 with h0 | ⟨g, cap, cur, h1, h2, h3, h4⟩
  · exact .inl h0
  · exact .inr ⟨g, cap, cur, h1, h2, (h'.block g (Array.getElem?_eq_some_iff.1 h3).1).trans h3, h4⟩
theorem St.keep {w W W' : World} {v : Value} {ps : List Hd} {bs : List Nat} (h : St w W v ps bs) (h' : Below W.heap.size W W') : St w W' v ps bs :=
  ⟨h.below.trans (h'.mono h.below.size), own_keep h.row h', h.len, fun j hj => (h'.block _ (Array.getElem?_eq_some_iff.1 (h.at_ j hj)).1).trans (h.at_ j hj)⟩
theorem St.alloc {w W : World} {v : Value} {ps : List Hd} {bs : List Nat} (h : St w W v ps bs) (o : Obj) : St w (W.alloc o) v ps bs := h.keep ((Below.refl _ W).alloc (Nat.le_refl _) o)
/-- the row is another block than a pair's -/
theorem St.apart {w W : World} {v : Value} {ps : List Hd} {bs : List Nat} (h : St w W v ps bs) {j : Nat} (hj : j < ps.length) : v.ownBlock ≠ some (bs.getD j 0) := fun e => by
  rcases h.row.2 with ⟨rfl, _⟩ | ⟨g, cap, cur, rfl, h2, h3, h4⟩
  · cases e
  · have e' : g = bs.getD j 0 := by simpa [Value.ownBlock] using e
    have := h.at_ j hj
    rw [← e', h3] at this
    simp at this
theorem St.app {w w3 w4 : World} {v v' : Value} {ps : List Hd} {bs : List Nat} {z : Hd} {q : Obj} (h : St w w3 v ps bs) (ho : w4.ownsRow w.heap.size 26 1 v' (ps.length + 1) (bs.map slV ++ [slV w3.heap.size]))
    (hg : ((w3.alloc (pairO z)).alloc q).grownBy w4 v.ownBlock) : St w w4 v' (ps ++ [z]) (bs ++ [w3.heap.size]) := by
  have hs := h.below.size
  have hlt := fun k e => h.row.lt k e
  refine ⟨?_, by simpa using ho, by simp [h.len], fun j hj => ?_⟩
  · exact ((h.below.alloc hs _).alloc (by simp; omega) q).grown hg (by simp; omega) fun k e => (hlt k e).1
  · rw [List.length_append] at hj
    simp only [List.length_cons, List.length_nil] at hj
    by_cases hjl : j < ps.length
    · have e1 : (bs ++ [w3.heap.size]).getD j 0 = bs.getD j 0 := by simp [List.getD_eq_getElem?_getD, List.getElem?_append_left (show j < bs.length by rw [h.len]; exact hjl)]
      have e2 : (ps ++ [z]).getD j ([], []) = ps.getD j ([], []) := by simp [List.getD_eq_getElem?_getD, List.getElem?_append_left hjl]
      rw [e1, e2]
      have ha := ((h.alloc (pairO z)).alloc q).at_ j hjl
      exact (hg.block _ (Array.getElem?_eq_some_iff.1 ha).1 (fun e => h.apart hjl e.symm)).trans ha
    · have hje : j = ps.length := by omega
      subst hje
      have e1 : (bs ++ [w3.heap.size]).getD ps.length 0 = w3.heap.size := by simp [List.getD_eq_getElem?_getD, List.getElem?_append_right (show bs.length ≤ ps.length by rw [h.len]; exact Nat.le_refl _), h.len]
      have e2 : (ps ++ [z]).getD ps.length ([], []) = z := by simp [List.getD_eq_getElem?_getD]
      rw [e1, e2]
      refine (hg.block w3.heap.size (by simp; omega) (fun e => ?_)).trans (hp_new _ _ _)
      have := (hlt _ e.symm).2
      omega
theorem i26 : (Tryz.prog.info? 26).map (fun i => (i.zero, i.size, i.bytes)) = some (some (.slice none 0 0), 1, 24) := by kernel_rfl
theorem u90 : Tryz.prog.underlying 90 = some (.slice 26) := by kernel_rfl
theorem i9 : (Tryz.prog.info? 9).map (fun i => (i.zero, i.size, i.bytes)) = some (some (.string ⟨#[]⟩), 1, 16) := by kernel_rfl
theorem u26 : Tryz.prog.underlying 26 = some (.slice 9) := by kernel_rfl
theorem cell_one (w : World) (x : Value) (t : TypeId) : ∀ (j : Nat) (u : Value), [x][j]? = some u → (w.alloc (.cells #[x] t)).cell? ((⟨w.heap.size, 0, none⟩ : Addr).add j) = some u := by
  intro j u hj
  match j, hj with
  | 0, hj => simp at hj; subst hj; simp [Addr.add]
theorem cell_one2 (w : World) (p : Obj) (x : Value) (t : TypeId) : ∀ (j : Nat) (u : Value), [x][j]? = some u → ((w.alloc p).alloc (.cells #[x] t)).cell? ((⟨w.heap.size + 1, 0, none⟩ : Addr).add j) = some u := by
  intro j u hj
  have := cell_one (w.alloc p) x t j u hj
  rwa [show (w.alloc p).heap.size = w.heap.size + 1 by simp] at this
theorem newcell {W W' : World} {a b : Value} {t : TypeId} (h : Below (W.alloc (.cells #[a, b] t)).heap.size (W.alloc (.cells #[a, b] t)) W') : W'.cell? ⟨W.heap.size, 0, none⟩ = some a ∧ W'.cell? ⟨W.heap.size, 1, none⟩ = some b := by
  have := (h.block W.heap.size (by simp)).trans (heap_alloc_new W (.cells #[a, b] t))
  constructor <;> simp [World.cell?, this]
theorem onecell {W W' : World} {a b : Nat} {v : Value} (h : W.cell? ⟨a, b, none⟩ = some v) (h' : Below W.heap.size W W') : W'.cell? ⟨a, b, none⟩ = some v := (h'.cell (p := ⟨a, b, none⟩) (World.block_lt_of_cell? _ _ h)).trans h
/-- a text is put behind a row of texts, within a region that draws -/
theorem step_app_str {ops : Array Oper} {o : Oper} {a : Act} {w : World} {K : Act → World → Prop} {Q : Exit → Act → World → Prop} {E : Prop} (hg : o.guard = none) (s x : Operand)
    (ho : o.op = .call { callee := .builtin .append, args := #[s, x], argTypes := #[26, 26] }) (N : Nat) (v : Value) (n : Nat) (xs : List Value) (hs : a.eval s = v) (hown : w.ownsRow N 9 1 v n xs)
    (ad : Addr) (S : ByteArray) (hx : a.eval x = .slice (some ad) 1 1) (hnews : ∀ (j : Nat) (u : Value), [Value.string S][j]? = some u → w.cell? (ad.add j) = some u) (hn : n ≤ 2097153) (hbase : N ≤ w.heap.size)
    (h : ∀ v' w', w'.ownsRow N 9 1 v' (n + 1) (xs ++ [.string S]) → w.grownBy w' v.ownBlock → K (a.put o.dst v') w') :
    if Region.wanted o (yielded ops a.tmps) = true then Oper.wp Tryz.prog o a w K Q else E := by
  have hw : Region.wanted o (yielded ops a.tmps) = true := by simp [Region.wanted, hg]
  rw [if_pos hw]
  obtain ⟨i0, hi, hz0, hz1, hz2⟩ := info_parts i9
  exact wp_append_own w s x 26 ho N 9 i0 (.string ⟨#[]⟩) 1 16 u26 hi hz0 hz1 hz2 rfl (by decide) v n xs hs hown ad 1 1 [.string S] hx rfl hnews (fun u hu => by simp at hu; subst hu; rfl) (by simp [maxLen]; omega) (by omega) hbase (fun v' w' h1 h2 _ => h v' w' h1 h2)
theorem step_out {ops : Array Oper} {o : Oper} {a : Act} {w5 wr : World} {K : Act → World → Prop} {Q : Exit → Act → World → Prop} {E : Prop} (hg : o.guard = none) (s x : Operand)
    (ho : o.op = .call { callee := .builtin .append, args := #[s, x], argTypes := #[26, 26] }) (v : Value) (j : Nat) (L : List Hd) (q : Hd) (S : ByteArray) (hs : a.eval s = v)
    (hB : wr.ownsRow w5.heap.size 9 1 v j (sV ((L.take j).map fmtP)) ∧ Below w5.heap.size w5 wr ∧ q = L.getD j ([], []) ∧ j < L.length) (HQ : ⟨(fmtP q).toArray⟩ = S) (hn : j ≤ 2097153)
    (hx : a.eval x = .slice (some ⟨wr.heap.size, 0, none⟩) 1 1)
    (h : ∀ v' w', w'.ownsRow w5.heap.size 9 1 v' (j + 1) (sV ((L.take (j + 1)).map fmtP)) → Below w5.heap.size w5 w' → K (a.put o.dst v') w') :
    if Region.wanted o (yielded ops a.tmps) = true then Oper.wp Tryz.prog o a (wr.alloc (.cells #[.string S] 9)).drew K Q else E := by
  have hz := hB.2.1.size
  have hrow : (wr.alloc (.cells #[.string S] 9)).drew.ownsRow w5.heap.size 9 1 v j (sV ((L.take j).map fmtP)) := row_heap (hB.1.alloc _) rfl
  refine step_app_str hg s x ho w5.heap.size v j _ hs hrow ⟨wr.heap.size, 0, none⟩ S hx (fun i u hi => by
    have := cell_one wr (.string S) 9 i u hi
    exact this) hn (by show _ ≤ (wr.alloc _).heap.size; simp; omega) ?_
  intro v' w' h1 h2
  have e : sV ((L.take (j + 1)).map fmtP) = sV ((L.take j).map fmtP) ++ [.string S] := by
    rw [take_snoc ([], []) hB.2.2.2, ← hB.2.2.1, ← HQ]
    simp [sV]
  refine h v' w' (by rw [e]; exact h1) ?_
  have hb : Below w5.heap.size w5 (wr.alloc (.cells #[.string S] 9)).drew := below_drew (hB.2.1.alloc hz _)
  exact hb.grown h2 (by show _ ≤ (wr.alloc _).heap.size; simp; omega) fun k e => (hrow.lt k e).1
theorem slAt_row {W : World} {N : Nat} {e : TypeId} {v : Value} {n : Nat} {xs : List Value} (h : W.ownsRow N e 1 v n xs) : SlAt W v xs := by
  have hl : xs.length = n := by have := h.1; omega
  rcases h.2 with ⟨rfl, h0⟩ | ⟨g, cap, cur, rfl, h2, h3, h4, h5⟩
  · refine ⟨none, 0, by rw [hl, h0]; rfl, by omega, (fun _ => rfl), fun b o e => by cases e⟩
  · refine ⟨some (g, 0), cap, by rw [hl]; rfl, by omega, (fun e => by cases e), fun b o e q u hu => ?_⟩
    cases e
    rw [Nat.zero_add]
    exact (rowG_cell h hu).1
/-- a slice of a pair is put behind the row -/
theorem app_sl {ops : Array Oper} {rest : List Oper} {o : Oper} {a : Act} {Q : Exit → Act → World → Prop} {w w3 : World} (hgd : o.guard = none) (s x : Operand)
    (ho : o.op = .call { callee := .builtin .append, args := #[s, x], argTypes := #[90, 90] }) (v : Value) (ps : List Hd) (bs : List Nat) (z : Hd) (hs : a.eval s = v)
    (hst : St w w3 v ps bs) (hx : a.eval x = .slice (some ⟨w3.heap.size + 1, 0, none⟩) 1 1) (hm : ps.length ≤ 2097153)
    (h : ∀ v' w', St w w' v' (ps ++ [z]) (bs ++ [w3.heap.size]) → wpList Tryz.prog ops Q rest (a.put o.dst v') w') :
    wpList Tryz.prog ops Q (o :: rest) a ((w3.alloc (pairO z)).alloc (.cells #[slV w3.heap.size] 26)) := by
  obtain ⟨i0, hi, hz0, hz1, hz2⟩ := info_parts i26
  have hsz := hst.below.size
  refine wpList_append_own _ hgd s x 90 ho w.heap.size 26 i0 (.slice none 0 0) 1 24 u90 hi hz0 hz1 hz2 rfl (by decide) v ps.length (bs.map slV) hs ((hst.row.alloc _).alloc _) ⟨w3.heap.size + 1, 0, none⟩ 1 1 [slV w3.heap.size] hx rfl (cell_one2 _ _ _ _) (fun u hu => by simp at hu; subst hu; rfl) (by simp [maxLen]; omega) (by omega) (by simp; omega) ?_
  intro v' w' hown' hgrow _
  exact h v' w' (hst.app hown' hgrow)
theorem sort_st {w W : World} {u : Option Addr} {cu m : Nat} {ps : List Hd} {bs : List Nat} (h : St w W (.slice u m cu) ps bs) (hm : ps.length = m) (hm2 : m ≤ 2097153) :
    Calls Tryz.prog 55 #[.slice u m cu, .func (.func 56) #[] #[]] W fun e w' => e = .returned (.tuple #[]) ∧ Below w.heap.size w w' ∧ ∃ (g : Nat) (bs' : Nat → Nat), (0 < m → u = some ⟨g, 0, none⟩) ∧
      ∀ j, j < m → w'.cell? ⟨g, j, none⟩ = some (slV (bs' j)) ∧ w'.cell? ⟨bs' j, 0, none⟩ = some (.string ⟨((sortP ps).getD j ([], [])).1.toArray⟩) ∧ w'.cell? ⟨bs' j, 1, none⟩ = some (.string ⟨((sortP ps).getD j ([], [])).2.toArray⟩) := by
  by_cases h0 : m = 0
  · subst h0
    have L := Tryz.sort55
    have key := AnyF.slices_SortFunc_none (P := Tryz.prog) (ρ := Tryz.sort55_ren) { L with } u cu (.func (.func 56) #[] #[]) W
    refine Calls.mono key ?_
    rintro e w' ⟨rfl, rfl⟩
    exact ⟨rfl, h.below, 0, fun _ => 0, fun h => by omega, fun j h => by omega⟩
  · rcases h.row.2 with ⟨_, h1⟩ | ⟨g, cap, cur, h1, h2, h3, h4⟩
    · omega
    · simp only [Value.slice.injEq] at h1
      obtain ⟨rfl, _, rfl⟩ := h1
      subst hm
      have key := sort55 (W := W) (g := g) (cap := cu) (n := ps.length) (ty := 9) (bs := fun j => bs.getD j 0) (l := ps) rfl (by omega) (by omega)
        (fun j hj => by
          have := rowG_cell h.row (j := j) (u := slV (bs.getD j 0)) (by
            rw [List.getElem?_map, List.getElem?_eq_getElem (show j < bs.length by rw [h.len]; exact hj), List.getD_eq_getElem?_getD, List.getElem?_eq_getElem (show j < bs.length by rw [h.len]; exact hj)]; rfl)
          exact ⟨this.1, this.2.1⟩)
        (fun j hj => ⟨fun e => h.apart hj (by rw [← e]; rfl), h.at_ j hj⟩)
      refine Calls.mono key ?_
      rintro e w' ⟨rfl, hg, bs', hb'⟩
      have hgl : w.heap.size ≤ g := h2
      refine ⟨rfl, h.below.grown hg h.below.size (fun k e => by cases e; exact hgl), g, bs', fun _ => rfl, fun j hj => ?_⟩
      obtain ⟨a, b⟩ := hb' j hj
      refine ⟨a, ?_, ?_⟩ <;> simp [World.cell?, b]
end Go.Proofs.YtnohmijdpmelpaaGreat
