/- EncLent's contract. -/
import Derived.Test.YtfkpdfpnpcdhaaaE4
set_option maxRecDepth 100000
set_option linter.unusedVariables false
set_option linter.unusedSimpArgs false
set_option linter.unusedSectionVars false
namespace Go.Proofs.Ytfkpdfpnpcdhaaa
open Go Go.Am Go.RowKit
theorem sl_at {G : Gh} {w : World} {n : Nat} {el : Nat → AV} {v : Value} {xs : List Value} (h : VR G w [] (.sl 1 n el false) v) (hx : xs.length = n) (he : ∀ i, i < n → (el i).cells = [el i])
    (hv : ∀ i u, i < n → VR G w [] (el i) u → xs[i]? = some u) : SlAt w v xs := by
  cases h with
  | sl _ _ _ _ _ base cap ws hn hbz hsz hc hw =>
    subst hx
    refine ⟨base, cap, rfl, hn, hbz, fun b o e q u hu => ?_⟩
    have hq : q < xs.length := (List.getElem?_eq_some_iff.1 hu).1
    have h1 := (hc b o e q (by omega)).2
    have h2 := hw q 0 (el q) hq (by rw [he q hq]; rfl)
    have h3 := hv q _ hq h2
    rw [h1, ← hu, h3]; simp
theorem lent_in (b : List UInt8) (l : List (List UInt8)) (hb : b.length ≤ 1048576) (hl : l.length ≤ 1048576) (hp : (packL l).length ≤ 8388608) (w : World) (vb vl : Value) (hvb : SlAt w vb (bV b)) (hvl : SlAt w vl (sV l)) :
    Calls Try.prog 4 #[vb, vl] w fun e w' => e = .returned (.bool true) ∧ Below w.heap.size w w' := by
  refine lent_core (packL l).length _ l.length b.length (bV (packL l)) (sV l) (bV b) ⟨(hexL b).toArray⟩ hp rfl hl hb (bV_len _) (sV_len _) (bV_len _) bV_one ?_ ?_ ?_ ?_ ?_ ?_ ?_ ?_ ?_ w vb vl hvb hvl
  · intro u hu
    obtain ⟨x, _, rfl⟩ := List.mem_map.1 hu
    exact ⟨x.toNat, rfl, x.toNat_lt⟩
  · exact fun w v h => pack_kit l (by omega) hp w v h
  · intro w v h
    have h1 := unpack_kit (packL l) (by omega) w v h
    rw [unpack_pack l (by omega)] at h1
    exact h1
  · exact fun w v h => hex_kit b (by omega) w v h
  · intro w
    have h1 := unhex_kit (hexL b) (by rw [hexL_len]; omega) w
    rw [unhex_hex] at h1
    exact h1
  · intro w v u h1 h2
    have h := sameTexts_kit l l (by omega) (by omega) w v u h1 h2
    rw [show (l == l) = true by simp] at h
    exact h
  · exact fun w v h => rpack_kit l (by omega) hp w v h
  · intro w v u h1 h2
    have h := same_kit (packL l) (packL l) w v u h1 h2
    rw [show (packL l == packL l) = true by simp] at h
    exact h
  · exact fun w => awake_kit w
theorem lent_ok (b : List UInt8) (l : List (List UInt8)) (hb : b.length ≤ 1048576) (hl : l.length ≤ 1048576) (hp : (packL l).length ≤ 8388608) :
    FnOK Try.prog 4 [.bs b false, .sl 1 l.length (strEl l) false] [] (.bool true) [] := by
  intro w G ρ vs hlen ha hbb hw
  have hρ : ρ = [] := List.eq_nil_of_length_eq_zero (by rw [← hbb.len]; rfl)
  subst hρ
  match vs, hlen with
  | [a, c], _ =>
    have h0 := (ha 0 _ a rfl rfl).1
    have h1 := (ha 1 _ c rfl rfl).1
    have s0 : SlAt w a (bV b) := sl_at h0.bs_inv (bV_len b) (fun i hi => rfl) (fun i u hi hu => by
      have := VR.int_inv (show VR G w [] (.int .u8 (b.getD i 0).toNat) u from hu)
      rw [this]; simp [bV, List.getD_eq_getElem?_getD, List.getElem?_eq_getElem hi])
    have s1 : SlAt w c (sV l) := sl_at h1 (sV_len l) (fun i hi => rfl) (fun i u hi hu => by
      have := VR.str_inv (show VR G w [] (.str (l.getD i [])) u from hu)
      rw [this]; simp [sV, List.getD_eq_getElem?_getD, List.getElem?_eq_getElem hi])
    refine Calls.mono (lent_in b l hb hl hp w a c s0 s1) ?_
    rintro e w' ⟨rfl, hB⟩
    exact ⟨_, G, [], rfl, Below.tr hB hw, Below.wi hB hw, rfl, ⟨rfl, fun id b blk j c h1 => by simp at h1⟩, VR.bool _ _, SpV_nr rfl⟩
end Go.Proofs.Ytfkpdfpnpcdhaaa
