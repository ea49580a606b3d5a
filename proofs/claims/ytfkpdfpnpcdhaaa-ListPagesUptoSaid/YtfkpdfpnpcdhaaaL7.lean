/- what a page is, in plain lists. -/
import Derived.Test.YtfkpdfpnpcdhaaaL6
namespace Go.Proofs.LP
open Go Go.Am Go.RowKit Go.Shelf Go.Proofs
set_option linter.unusedVariables false
set_option linter.unusedSectionVars false
set_option linter.unusedSimpArgs false
set_option maxRecDepth 100000
/-- what the library's variable MaxLen holds -/
class MM where
  m : Int
instance maxTab [MM] : Tab := ⟨fun b => if b = 0 then some #[.int .i64 MM.m] else none⟩
variable [MM]
theorem m_cell {G : Gh} {w : World} (hw : WI G w) : w.cell? ⟨0, 0, none⟩ = some (.int .i64 MM.m) ∧ 0 < w.heap.size := by
  obtain ⟨⟨e, fz, h⟩, _⟩ := hw.tab 0 #[.int .i64 MM.m] rfl
  exact ⟨by simp [World.cell?, h], (Array.getElem?_eq_some_iff.1 h).1⟩
theorem env_of {w : World} (h : w.cell? ⟨0, 0, none⟩ = some (.int .i64 MM.m)) (h0 : 0 < w.heap.size) (names : Nat → ByteArray) (len : Nat) (pre del : ByteArray) (hs : ∀ k, k < len → (names k).size < 4294967281) :
    Env w hpB grB names len pre del where
  hp s p w' _ := (Try.strings_HasPrefix s p w').mono fun e w'' ⟨h1, h2⟩ => ⟨h1, by rw [h2]; exact Below.refl _ _⟩
  gr k w' hk hb := (callsIn_wide.1 (group_in 1 (Nat.le_refl _) (names k) pre del MM.m w' (hs k hk) ((hb.cell (p := ⟨0, 0, none⟩) h0).trans h))).mono fun e w'' ⟨h1, h2⟩ => ⟨h1, by rw [h2]; exact Below.refl _ _⟩
theorem group_ok (s p d : List UInt8) (hs : s.length < 4294967281) : FnOK Try.prog 30 [.str s, .str p, .str d] [] (.tup [.str (groupF s p d).1, .bool (groupF s p d).2]) [] := by
  refine FnOK.of_below rfl fun w G vs hl ha hw => ?_
  obtain ⟨hm, _⟩ := m_cell hw
  match vs, hl with
  | [a, b, c], _ =>
    have h0 := ha 0 _ a rfl rfl
    have h1 := ha 1 _ b rfl rfl
    have h2 := ha 2 _ c rfl rfl
    cases h0; cases h1; cases h2
    refine (callsIn_wide.1 (group_in 1 (Nat.le_refl _) (toB s) (toB p) (toB d) MM.m w hs hm)).mono ?_
    rintro e w' ⟨rfl, rfl⟩
    refine ⟨_, rfl, fun G w => ?_, Below.refl _ _⟩
    refine .tup _ _ [_, _] rfl fun q c v e1 e2 => ?_
    match q, e1, e2 with
    | 0, e1, e2 => simp at e1 e2; subst e1; subst e2; exact .str _ _
    | 1, e1, e2 => simp at e1 e2; subst e1; subst e2; exact .bool _ _
    | q + 2, e1, _ => simp at e1
abbrev strEl (l : List (List UInt8)) : Nat → AV := fun i => .str (l.getD i [])
/-- an item: its name, is it a group, its place -/
structure Ti where
  nm : List UInt8
  g : Bool
  i : Int
deriving DecidableEq
abbrev noneS : AV := .sl 2 0 (fun _ => .bad) false
def tiA (x : Ti) : List AV := [.str x.nm, .bool x.g, .int .i64 x.i, .str [], .int .i64 0, .bool false, .bool false, .str [], .int .i64 0, .int .i64 0, .str [], noneS, noneS, .int .i64 0, .int .i64 0, .str [], .int .i64 0, .int .i64 0, .str [], noneS, noneS, .bool false]
abbrev tiEl (l : List Ti) : Nat → AV := fun i => .agg (tiA (l.getD i ⟨[], false, 0⟩))
def Ti.it (x : Ti) : It := ⟨toB x.nm, x.g, x.i⟩
def sleL (a b : List UInt8) : Bool := Op.bytesLess a b || a == b
theorem sle_toB (a b : List UInt8) : sle (toB a) (toB b) = sleL a b := by
  unfold sle sleL
  rw [Lib.toList_data, Lib.toList_data]; rfl
section
variable (l : List (List UInt8)) (pre del mar : List UInt8)
def stpL (k : Nat) (s : List UInt8 × Bool × List Ti) : List UInt8 × Bool × List Ti :=
  if Lib.hasPrefix (l.getD k []) pre then
    if (groupF (l.getD k []) pre del).2 then
      if s.2.1 && (groupF (l.getD k []) pre del).1 == s.1 || sleL (groupF (l.getD k []) pre del).1 mar then s
      else ((groupF (l.getD k []) pre del).1, true, s.2.2 ++ [⟨(groupF (l.getD k []) pre del).1, true, 0⟩])
    else if sleL (l.getD k []) mar then s else (s.1, s.2.1, s.2.2 ++ [⟨l.getD k [], false, k⟩])
  else s
def uptoL : Nat → List UInt8 × Bool × List Ti
  | 0 => ([], false, [])
  | k + 1 => stpL l pre del mar k (uptoL k)
def fullL : List Ti := (uptoL l pre del mar l.length).2.2
def pgLL (mx : Int) : List Ti := if mx < 1 then [] else (fullL l pre del mar).take mx.toNat
def pgML (mx : Int) : Bool := if mx < 1 then false else decide (mx.toNat < (fullL l pre del mar).length)
theorem upto_eq (out : Nat → Bool) (ho : ∀ k, out k = sleL (l.getD k []) mar) (k : Nat) : upto hpB grB out (fun i => toB (l.getD i [])) (toB pre) (toB del) (toB mar) k
    = ⟨toB (uptoL l pre del mar k).1, (uptoL l pre del mar k).2.1, (uptoL l pre del mar k).2.2.map Ti.it⟩ := by
  induction k with
  | zero => rfl
  | succ k ih =>
    have h1 : hpB (toB (l.getD k [])) (toB pre) = Lib.hasPrefix (l.getD k []) pre := rfl
    have h2 : grB (toB (l.getD k [])) (toB pre) (toB del) = (toB (groupF (l.getD k []) pre del).1, (groupF (l.getD k []) pre del).2) := rfl
    have h3 : ∀ a b : List UInt8, ((toB a).toList == (toB b).toList) = (a == b) := fun a b => by rw [Lib.toList_data, Lib.toList_data]; rfl
    simp only [upto, uptoL, ih, stp, stpL, h1, h2, h3, sle_toB, ho]
    by_cases c1 : Lib.hasPrefix (l.getD k []) pre = true
    · rw [if_pos c1, if_pos c1]
      by_cases c2 : (groupF (l.getD k []) pre del).2 = true
      · rw [if_pos c2, if_pos c2]
        by_cases c3 : ((uptoL l pre del mar k).2.1 && (groupF (l.getD k []) pre del).1 == (uptoL l pre del mar k).1 || sleL (groupF (l.getD k []) pre del).1 mar) = true
        · rw [if_pos c3, if_pos c3]
        · rw [if_neg c3, if_neg c3]; simp [Ti.it]
      · rw [if_neg c2, if_neg c2]
        by_cases c3 : sleL (l.getD k []) mar = true
        · rw [if_pos c3, if_pos c3]
        · rw [if_neg c3, if_neg c3]; simp [Ti.it]
    · rw [if_neg c1, if_neg c1]
theorem pgL_eq (mx : Int) : pgL hpB grB (fun i => sle (toB (l.getD i [])) (toB mar)) (fun i => toB (l.getD i [])) (toB pre) (toB del) (toB mar) mx l.length = (pgLL l pre del mar mx).map Ti.it := by
  unfold pgL pgLL full fullL
  rw [upto_eq l pre del mar _ (fun k => sle_toB _ _)]
  split
  · rfl
  · rw [List.map_take]
theorem pgM_eq (mx : Int) : pgM hpB grB (fun i => sle (toB (l.getD i [])) (toB mar)) (fun i => toB (l.getD i [])) (toB pre) (toB del) (toB mar) mx l.length = pgML l pre del mar mx := by
  unfold pgM pgML full fullL
  rw [upto_eq l pre del mar _ (fun k => sle_toB _ _)]
  simp
end
theorem vr_ti {G : Gh} {w : World} (x : Ti) (q : Nat) (c : AV) (v : Value) (h1 : (tiA x)[q]? = some c) (h2 : (itC x.it.name x.it.grp x.it.at_)[q]? = some v) : VR G w [] c v := by
  have ns : VR G w [] noneS (.slice none 0 0) := .sl _ _ _ _ _ none 0 (fun _ => undef) (Nat.le_refl _) (fun _ => rfl) (fun i h => absurd h (Nat.not_lt_zero _)) (fun b o h => by simp at h) (fun i j c h => absurd h (Nat.not_lt_zero _))
  have es : VR G w [] (.str []) (.string ⟨#[]⟩) := .str _ _
  match q, h1, h2 with
  | 0, h1, h2 => simp [tiA] at h1; simp [itC] at h2; subst h1; subst h2; exact .str _ _
  | 1, h1, h2 => simp [tiA] at h1; simp [itC] at h2; subst h1; subst h2; exact .bool _ _
  | 2, h1, h2 => simp [tiA] at h1; simp [itC] at h2; subst h1; subst h2; exact .int _ _ _
  | 3, h1, h2 => simp [tiA] at h1; simp [itC] at h2; subst h1; subst h2; exact es
  | 4, h1, h2 => simp [tiA] at h1; simp [itC] at h2; subst h1; subst h2; exact .int _ _ _
  | 5, h1, h2 => simp [tiA] at h1; simp [itC] at h2; subst h1; subst h2; exact .bool _ _
  | 6, h1, h2 => simp [tiA] at h1; simp [itC] at h2; subst h1; subst h2; exact .bool _ _
  | 7, h1, h2 => simp [tiA] at h1; simp [itC] at h2; subst h1; subst h2; exact es
  | 8, h1, h2 => simp [tiA] at h1; simp [itC] at h2; subst h1; subst h2; exact .int _ _ _
  | 9, h1, h2 => simp [tiA] at h1; simp [itC] at h2; subst h1; subst h2; exact .int _ _ _
  | 10, h1, h2 => simp [tiA] at h1; simp [itC] at h2; subst h1; subst h2; exact es
  | 11, h1, h2 => simp [tiA] at h1; simp [itC] at h2; subst h1; subst h2; exact ns
  | 12, h1, h2 => simp [tiA] at h1; simp [itC] at h2; subst h1; subst h2; exact ns
  | 13, h1, h2 => simp [tiA] at h1; simp [itC] at h2; subst h1; subst h2; exact .int _ _ _
  | 14, h1, h2 => simp [tiA] at h1; simp [itC] at h2; subst h1; subst h2; exact .int _ _ _
  | 15, h1, h2 => simp [tiA] at h1; simp [itC] at h2; subst h1; subst h2; exact es
  | 16, h1, h2 => simp [tiA] at h1; simp [itC] at h2; subst h1; subst h2; exact .int _ _ _
  | 17, h1, h2 => simp [tiA] at h1; simp [itC] at h2; subst h1; subst h2; exact .int _ _ _
  | 18, h1, h2 => simp [tiA] at h1; simp [itC] at h2; subst h1; subst h2; exact es
  | 19, h1, h2 => simp [tiA] at h1; simp [itC] at h2; subst h1; subst h2; exact ns
  | 20, h1, h2 => simp [tiA] at h1; simp [itC] at h2; subst h1; subst h2; exact ns
  | 21, h1, h2 => simp [tiA] at h1; simp [itC] at h2; subst h1; subst h2; exact .bool _ _
  | q + 22, h1, _ => simp [tiA] at h1
/-- who owns what behind a call that leaves a fresh row -/
def frG (G : Gh) (g n : Nat) : Gh := fun b o => if b = g ∧ o < n then .frz else G b o
theorem rowOf_at (r : List Ti) (i j : Nat) (hi : i < r.length) (hj : j < 22) : (rowOf (r.map Ti.it))[i * 22 + j]? = (itC (r.getD i ⟨[], false, 0⟩).it.name (r.getD i ⟨[], false, 0⟩).it.grp (r.getD i ⟨[], false, 0⟩).it.at_)[j]? := by
  induction r generalizing i with
  | nil => simp at hi
  | cons x r ih =>
    simp only [List.map_cons, rowOf, List.flatMap_cons]
    cases i with
    | zero => rw [List.getElem?_append_left (by rw [itC_len]; omega)]; simp
    | succ i =>
      rw [List.getElem?_append_right (by rw [itC_len]; omega), itC_len]
      have := ih i (by simpa using hi)
      rw [show (i + 1) * 22 + j - 22 = i * 22 + j by omega]
      simpa [rowOf] using this
theorem rowOf_len (r : List It) : (rowOf r).length = r.length * 22 := by
  induction r with
  | nil => rfl
  | cons x r ih => simp only [rowOf, List.flatMap_cons, List.length_append, itC_len] at ih ⊢; rw [ih]; simp; omega
theorem rowOf_one (r : List It) : ∀ v, v ∈ rowOf r → v.oneCell' = true := by
  intro v hv
  obtain ⟨x, _, hx⟩ := List.mem_flatMap.1 hv
  exact itC_one _ _ _ v hx
end Go.Proofs.LP
