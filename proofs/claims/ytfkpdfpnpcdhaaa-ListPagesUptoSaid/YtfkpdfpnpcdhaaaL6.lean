/- list.Group walked. -/
import Derived.Test.YtfkpdfpnpcdhaaaL5
import Derived.Test.YtfkpdfpnpcdhaaaShelf
namespace Go.Proofs.LP
open Go Go.RowKit Go.Shelf Go.Proofs
set_option linter.unusedVariables false
set_option linter.unusedSimpArgs false
attribute [local go_sem] Oper.semAt_some
/-- the group in which a name is -/
def groupF (s p d : List UInt8) : List UInt8 × Bool :=
  if Lib.hasPrefix s p = true ∧ d ≠ [] ∧ 0 ≤ Lib.index (s.drop p.length) d then (s.take (p.length + (Lib.index (s.drop p.length) d).toNat + d.length), true) else ([], false)
def toB (l : List UInt8) : ByteArray := ⟨l.toArray⟩
def grB (s p d : ByteArray) : ByteArray × Bool := (toB (groupF s.data.toList p.data.toList d.data.toList).1, (groupF s.data.toList p.data.toList d.data.toList).2)
def hpB (s p : ByteArray) : Bool := Lib.hasPrefix s.data.toList p.data.toList
set_option maxRecDepth 100000 in
set_option maxHeartbeats 2000000 in
theorem group_in (n : Nat) (hn : 1 ≤ n) (s p d : ByteArray) (m : Int) (w : World) (hs : s.size < 4294967281) (hm : w.cell? ⟨0, 0, none⟩ = some (.int .i64 m)) :
    CallsIn Fence.wide n Try.prog 30 #[.string s, .string p, .string d] w fun e w' => e = .returned (.tuple #[.string (grB s p d).1, .bool (grB s p d).2]) ∧ w' = w := by
  refine callsIn_of_wp Try.func30 rfl trivial ?_ rfl
  simp only [Try.ntmps30, List.size_toArray, List.length_cons, List.length_nil, Nat.reduceAdd, Nat.reduceSub, Array.replicate_succ, Array.replicate_zero, List.push_toArray, List.append_toArray, List.nil_append, List.cons_append]
  have w45 : Fence.wide.fn 45 := trivial
  have w46 : Fence.wide.fn 46 := trivial
  have hs2 : (⟨(Lib.trimPrefix s.data.toList p.data.toList).toArray⟩ : ByteArray).size < 4294967281 := by
    have : (⟨(Lib.trimPrefix s.data.toList p.data.toList).toArray⟩ : ByteArray).size = (Lib.trimPrefix s.data.toList p.data.toList).length := rfl
    have h2 : s.size = s.data.toList.length := rfl
    rw [this]; unfold Lib.trimPrefix; split
    · simp only [List.length_drop]; omega
    · omega
  have hix0 := Lib.indexB_cases ⟨(Lib.trimPrefix s.data.toList p.data.toList).toArray⟩ d
  have hixe : Lib.indexB ⟨(Lib.trimPrefix s.data.toList p.data.toList).toArray⟩ d = Lib.index (Lib.trimPrefix s.data.toList p.data.toList) d.data.toList := rfl
  rw [hixe] at hix0
  have hT : (⟨(Lib.trimPrefix s.data.toList p.data.toList).toArray⟩ : ByteArray).size = (Lib.trimPrefix s.data.toList p.data.toList).length := rfl
  rw [hT] at hix0
  have hde : d.toList = d.data.toList := Lib.toList_data d
  have hS : s.size = s.data.toList.length := rfl
  have hP : p.size = p.data.toList.length := rfl
  have hD : d.size = d.data.toList.length := rfl
  have hgr : grB s p d = (toB (groupF s.data.toList p.data.toList d.data.toList).1, (groupF s.data.toList p.data.toList d.data.toList).2) := rfl
  by_cases hpr : Lib.hasPrefix s.data.toList p.data.toList = true
  · have hle : p.data.toList.length ≤ s.data.toList.length := by
      have := hpr; unfold Lib.hasPrefix at this
      exact (List.isPrefixOf_iff_prefix.1 this).length_le
    have htr : Lib.trimPrefix s.data.toList p.data.toList = s.data.toList.drop p.data.toList.length := by unfold Lib.trimPrefix; rw [if_pos hpr]
    rw [htr] at hix0
    simp only [List.length_drop] at hix0
    by_cases hd : d.data.toList = []
    · have hg : grB s p d = (⟨#[]⟩, false) := by rw [hgr, groupF, if_neg (by simp [hd])]; rfl
      have hde' : d.toList.isEmpty = true := by rw [hde, hd]; rfl
      rw [hg]
      clear hg hix0 hixe hT hde hS hP hD hgr htr hle hd
      gi_wp2_with first
        | (gi_at_call 45; refine (callsIn_wide.2 (Try.strings_CutPrefix s p _)).mono ?_; rintro e w' ⟨rfl, rfl⟩)
        | (gi_at_call 46; refine (callsIn_wide.2 (Try.strings_Index _ d m _ hs2 hm)).mono ?_; rintro e w' ⟨rfl, rfl⟩)
      all_goals go_ret2
      all_goals exact ⟨rfl, rfl⟩
    · have hde' : d.toList.isEmpty = false := by rw [hde]; simpa using hd
      rcases hix0 with hix | ⟨i, hix, hi⟩
      · have hg : grB s p d = (⟨#[]⟩, false) := by rw [hgr, groupF, if_neg (by rw [hix]; simp)]; rfl
        rw [hg]
        rw [← htr] at hix
        clear hg hixe hT hde hS hP hD hgr htr hle hd
        gi_wp2_with first
          | (gi_at_call 45; refine (callsIn_wide.2 (Try.strings_CutPrefix s p _)).mono ?_; rintro e w' ⟨rfl, rfl⟩)
          | (gi_at_call 46; refine (callsIn_wide.2 (Try.strings_Index _ d m _ hs2 hm)).mono ?_; rw [hix]; rintro e w' ⟨rfl, rfl⟩)
        all_goals go_ret2
        all_goals exact ⟨rfl, rfl⟩
      · have hg : grB s p d = (s.extract 0 (p.size + i + d.size), true) := by
          rw [hgr, groupF, if_pos ⟨hpr, hd, by rw [hix]; omega⟩]
          refine Prod.ext ?_ rfl
          show toB _ = _
          have : ∀ a b : ByteArray, a.data.toList = b.data.toList → a = b := fun a b h => by cases a; cases b; simp at h; subst h; rfl
          refine this _ _ ?_
          rw [hix, Int.toNat_natCast, ByteArray.data_extract, Array.toList_extract, ← hP, ← hD]
          simp only [toB, List.extract_eq_take_drop, List.drop_zero, Nat.sub_zero]
        rw [hg]
        rw [← htr] at hix
        have hsl : p.size + i + d.size ≤ s.size := by omega
        clear hg hixe hT hde hS hP hD hgr htr hle hd hi
        have w1 : wrap64 ((p.size : Int) + i) = ((p.size + i : Nat) : Int) := by unfold wrap64; omega
        have w2 : wrap64 (((p.size + i : Nat) : Int) + d.size) = ((p.size + i + d.size : Nat) : Int) := by unfold wrap64; omega
        gi_wp2_with first
          | (gi_at_call 45; refine (callsIn_wide.2 (Try.strings_CutPrefix s p _)).mono ?_; rintro e w' ⟨rfl, rfl⟩)
          | (gi_at_call 46; refine (callsIn_wide.2 (Try.strings_Index _ d m _ hs2 hm)).mono ?_; rw [hix]; rintro e w' ⟨rfl, rfl⟩)
        all_goals go_ret2
        all_goals exact ⟨rfl, rfl⟩
  · have hg : grB s p d = (⟨#[]⟩, false) := by rw [hgr, groupF, if_neg (fun h => hpr h.1)]; rfl
    have hpr' : Lib.hasPrefix s.data.toList p.data.toList = false := by simpa using hpr
    rw [hg]
    clear hg hix0 hixe hT hde hS hP hD hgr hpr
    gi_wp2_with first
      | (gi_at_call 45; refine (callsIn_wide.2 (Try.strings_CutPrefix s p _)).mono ?_; rintro e w' ⟨rfl, rfl⟩)
      | (gi_at_call 46; refine (callsIn_wide.2 (Try.strings_Index _ d m _ hs2 hm)).mono ?_; rintro e w' ⟨rfl, rfl⟩)
    all_goals go_ret2
    all_goals exact ⟨rfl, rfl⟩
end Go.Proofs.LP
