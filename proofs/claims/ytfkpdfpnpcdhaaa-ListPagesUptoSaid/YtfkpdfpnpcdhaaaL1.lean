/- list.items, walked at any loop. -/
import Derived.Test.YtfkpdfpnpcdhaaaL0
namespace Go.Proofs.LP
open Go Go.RowKit Go.Shelf Go.Proofs
set_option linter.unusedVariables false
attribute [local go_sem] Oper.semAt_some
/-- 'x' is not above 'y' -/
def sle (x y : ByteArray) : Bool := Op.bytesLess x.toList y.toList || x.toList == y.toList
theorem run_sle (x y : ByteArray) (w : World) : (binOp .leq 9 (.string x) (.string y)).run Try.prog w = .ok (.bool (sle x y)) w := by
  simp [binOp, Op.stringOp, sle]
attribute [local go_sem] run_sle
structure It where
  name : ByteArray
  grp : Bool
  at_ : Int
def It.val (x : It) : Value := .agg (itC x.name x.grp x.at_).toArray
structure St where
  last : ByteArray
  some : Bool
  ys : List It
section
variable (hp : ByteArray → ByteArray → Bool) (gr : ByteArray → ByteArray → ByteArray → ByteArray × Bool) (out : Nat → Bool) (names : Nat → ByteArray) (pre del mar : ByteArray)
def stp (k : Nat) (s : St) : St :=
  if hp (names k) pre then
    if (gr (names k) pre del).2 then
      if s.some && (gr (names k) pre del).1.toList == s.last.toList || sle (gr (names k) pre del).1 mar then s
      else ⟨(gr (names k) pre del).1, true, s.ys ++ [⟨(gr (names k) pre del).1, true, 0⟩]⟩
    else if out k then s else ⟨s.last, s.some, s.ys ++ [⟨names k, false, k⟩]⟩
  else s
def upto : Nat → St
  | 0 => ⟨⟨#[]⟩, false, []⟩
  | k + 1 => stp hp gr out names pre del mar k (upto k)
theorem stp_pre (k : Nat) (s : St) : ∃ l, (stp hp gr out names pre del mar k s).ys = s.ys ++ l ∧ l.length ≤ 1 := by
  unfold stp
  split
  · split
    · split
      · exact ⟨[], by simp⟩
      · exact ⟨[_], rfl, by simp⟩
    · split
      · exact ⟨[], by simp⟩
      · exact ⟨[_], rfl, by simp⟩
  · exact ⟨[], by simp⟩
theorem upto_len : ∀ k, (upto hp gr out names pre del mar k).ys.length ≤ k
  | 0 => by simp [upto]
  | k + 1 => by
    obtain ⟨l, h, h2⟩ := stp_pre hp gr out names pre del mar k (upto hp gr out names pre del mar k)
    have := upto_len k
    simp only [upto, h, List.length_append]; omega
theorem upto_pre {k m : Nat} (h : k ≤ m) : (upto hp gr out names pre del mar k).ys <+: (upto hp gr out names pre del mar m).ys := by
  induction m with
  | zero => obtain rfl : k = 0 := by omega
            exact List.prefix_rfl
  | succ m ih =>
    rcases Nat.lt_or_ge k (m + 1) with h1 | h1
    · obtain ⟨l, h2, _⟩ := stp_pre hp gr out names pre del mar m (upto hp gr out names pre del mar m)
      exact (ih (by omega)).trans ⟨l, by simp only [upto, h2]⟩
    · obtain rfl : k = m + 1 := by omega
      exact List.prefix_rfl
end
/-- all below 'n' but two blocks is as it was -/
structure Kx (c d n : Nat) (A B : World) : Prop where
  os : B.os = A.os
  tape : B.tape = A.tape
  output : B.output = A.output
  size : A.heap.size ≤ B.heap.size
  block : ∀ k, k < n → k ≠ c → k ≠ d → B.heap[k]? = A.heap[k]?
theorem Kx.refl (c d n : Nat) (A : World) : Kx c d n A A := ⟨rfl, rfl, rfl, Nat.le_refl _, fun _ _ _ _ => rfl⟩
theorem Kx.trans {c d n : Nat} {A B C : World} (h : Kx c d n A B) (k : Kx c d n B C) : Kx c d n A C :=
  ⟨k.os.trans h.os, k.tape.trans h.tape, k.output.trans h.output, Nat.le_trans h.size k.size, fun b h1 h2 h3 => (k.block b h1 h2 h3).trans (h.block b h1 h2 h3)⟩
theorem Below.kx {c d n : Nat} {A B : World} (h : Below n A B) : Kx c d n A B := ⟨h.os, h.tape, h.output, h.size, fun b h1 _ _ => h.block b h1⟩
theorem Kx.bl {c d n : Nat} {A B C : World} (h : Kx c d n A B) (k : Below n B C) : Kx c d n A C := h.trans (Below.kx k)
theorem Kx.cell {c d n : Nat} {A B : World} (h : Kx c d n A B) {p : Addr} (h1 : p.block < n ∧ p.block ≠ c ∧ p.block ≠ d) : B.cell? p = A.cell? p := by
  have := h.block p.block h1.1 h1.2.1 h1.2.2
  simp only [World.cell?, this]
theorem grown_of_below {w w' : World} (h : Below w.heap.size w w') : w.grownBy w' none := ⟨h.os, h.tape, h.output, h.size, fun k hk _ => h.block k hk⟩
set_option maxRecDepth 100000 in
set_option maxHeartbeats 1000000 in
theorem items1_in (n : Nat) (hn : 2 ≤ n) (l B1 B2 B3 n₀ e1 e2 : Nat) (hB1 : B1 < n₀ ∧ B1 ≠ e1 ∧ B1 ≠ e2) (hB2 : B2 < n₀ ∧ B2 ≠ e1 ∧ B2 ≠ e2) (hB3 : B3 < n₀ ∧ B3 ≠ e1 ∧ B3 ≠ e2) (bn : Option Addr) (cap len : Nat) (hlen : len ≤ 16777216) (names : Nat → ByteArray) (pre del mar : ByteArray) (bo : Array Value) (J Jx : List It → World → Prop)
    (hp : ByteArray → ByteArray → Bool) (gr : ByteArray → ByteArray → ByteArray → ByteArray × Bool) (out : Nat → Bool)
    (W : World) (hn0 : n₀ ≤ W.heap.size)
    (hHP : ∀ s p w, Kx e1 e2 n₀ W w → CallsIn Fence.wide (n-1) Try.prog 67 #[.string s, .string p] w fun e w' => e = .returned (.bool (hp s p)) ∧ Below w.heap.size w w')
    (hGr : ∀ (k : Nat) w, k < len → Kx e1 e2 n₀ W w → CallsIn Fence.wide (n-1) Try.prog 30 #[.string (names k), .string pre, .string del] w fun e w' => e = .returned (.tuple #[.string (gr (names k) pre del).1, .bool (gr (names k) pre del).2]) ∧ Below w.heap.size w w')
    (hOut : ∀ (i : Nat) w, i < len → Kx e1 e2 n₀ W w → CallsIn Fence.wide (n-1) Try.prog 49 (#[.int .i64 i] ++ bo) w fun e w' => e = .returned (.bool (out i)) ∧ Below w.heap.size w w')
    (h1 : W.cell? ⟨B1, 0, none⟩ = some (.slice bn len cap)) (hN : ∀ i, i < len → ∃ a : Addr, bn = some a ∧ ((a.add i).block < n₀ ∧ (a.add i).block ≠ e1 ∧ (a.add i).block ≠ e2) ∧ W.cell? (a.add i) = some (.string (names i)))
    (q0 : W.cell? ⟨B2, 0, none⟩ = some (.string pre)) (q1 : W.cell? ⟨B2, 1, none⟩ = some (.string del)) (q2 : W.cell? ⟨B2, 2, none⟩ = some (.string mar)) 
    (h3 : W.cell? ⟨B3, 0, none⟩ = some (.func (.func 49) #[] bo))
    (hJ0 : AbidesFrom W.heap.size J)
    (hY : ∀ ys x W1, J ys W1 → ys.length < len → YieldAt Fence.wide (n - 1) Try.prog l #[It.val x] W1 fun e W' =>
      (e = .returned (.bool true) ∧ J (ys ++ [x]) W' ∧ Kx e1 e2 n₀ W1 W') ∨ (e = .returned (.bool false) ∧ Jx (ys ++ [x]) W'))
    (h0 : J [] W) :
    CallsIn Fence.wide n Try.prog 66 #[.func (.yield l) #[] #[], .pointer (some ⟨B1, 0, none⟩), .pointer (some ⟨B2, 0, none⟩), .pointer (some ⟨B3, 0, none⟩)] W fun e W' => (∃ v, e = .returned v) ∧
      ((∃ ys, ys = (upto hp gr out names pre del mar len).ys ∧ J ys W') ∨ (∃ ys, ys <+: (upto hp gr out names pre del mar len).ys ∧ Jx ys W')) := by
  refine callsIn_of_wp Try.func66 rfl trivial ?_ rfl
  simp only [Try.ntmps66, List.size_toArray, List.length_cons, List.length_nil, Nat.reduceAdd, Nat.reduceSub, Array.replicate_succ, Array.replicate_zero, List.push_toArray, List.append_toArray, List.nil_append, List.cons_append]
  have facts : ∀ w, Kx e1 e2 n₀ W w → w.cell? ⟨B1, 0, none⟩ = some (.slice bn len cap) ∧ w.cell? ⟨B2, 0, none⟩ = some (.string pre) ∧ w.cell? ⟨B2, 1, none⟩ = some (.string del) ∧ w.cell? ⟨B2, 2, none⟩ = some (.string mar) ∧ w.cell? ⟨B3, 0, none⟩ = some (.func (.func 49) #[] bo) := fun w h =>
    ⟨(h.cell (p := ⟨B1, 0, none⟩) hB1).trans h1, (h.cell (p := ⟨B2, 0, none⟩) hB2).trans q0, (h.cell (p := ⟨B2, 1, none⟩) hB2).trans q1, (h.cell (p := ⟨B2, 2, none⟩) hB2).trans q2, (h.cell (p := ⟨B3, 0, none⟩) hB3).trans h3⟩
  have hJm : ∀ ys w w', J ys w → Below w.heap.size w w' → J ys w' := fun ys w w' h hb => hJ0 ys w w' none h (grown_of_below hb) (by simp)
  gi_wp2
  gi_loopw [5, 6, 14] (fun la so i wr => ∃ (k : Nat), la = .string (upto hp gr out names pre del mar k).last ∧ so = .bool (upto hp gr out names pre del mar k).some ∧ i = .int .i64 k ∧ k ≤ len ∧ Kx e1 e2 n₀ W wr ∧ J (upto hp gr out names pre del mar k).ys wr)
    (fun _ _ i _ => match i with | .int _ k => len - k.toNat | _ => 0)
  case atStart => exact ⟨0, rfl, rfl, rfl, by omega, Kx.refl _ _ _ _, h0⟩
  case round =>
    obtain ⟨k, rfl, rfl, rfl, hk, hB, hJ⟩ := hrel
    obtain ⟨f1, f2, f3, f4, f5⟩ := facts _ hB
    by_cases hk2 : k < len
    · obtain ⟨a, rfl, ha, hna⟩ := hN k hk2
      have hna' := (hB.cell (p := a.add k) ha).trans hna
      have hn1 : 1 ≤ n := by omega
      have w67 : Fence.wide.fn 67 := trivial
      have w30 : Fence.wide.fn 30 := trivial
      have w49 : Fence.wide.fn 49 := trivial
      have hw : wrap64 ((k : Int) + 1) = ((k + 1 : Nat) : Int) := by simp [wrap64]; omega
      have hkl := upto_len hp gr out names pre del mar k
      have hu : upto hp gr out names pre del mar (k + 1) = stp hp gr out names pre del mar k (upto hp gr out names pre del mar k) := rfl
      have hup := upto_pre hp gr out names pre del mar (k := k + 1) (m := len) hk2
      generalize hs : upto hp gr out names pre del mar k = s at *
      obtain ⟨last, some, ys⟩ := s
      simp only at hkl hJ ⊢
      gi_wp2_with first
        | (gi_at_call 67; refine (hHP _ _ _ hB).mono ?_; rintro e w2 ⟨rfl, hb2⟩; have hB2' := hB.bl (hb2.mono (Nat.le_trans hn0 hB.size)); have hJ2 := hJm _ _ _ hJ hb2; obtain ⟨f1', f2', f3', f4', f5'⟩ := facts _ hB2')
        | (refine op_alloc rfl rfl ?_; intro wa hsa hia hba _; have hBa := hB2'.bl (hba.mono (Nat.le_trans hn0 hB2'.size)); have hJa := hJm _ _ _ hJ2 hba; obtain ⟨g1, g2, g3, g4, g5⟩ := facts _ hBa)
        | (refine op_store (xs := itC (names k) false k) hia rfl (itC_one _ _ _) rfl rfl rfl rfl ?_; intro wb hib hbb hsb _; have hBb := hBa.bl (hbb _ (Nat.le_trans hn0 hB2'.size)); have hJb := hJm _ _ _ hJ2 (hba.trans (hbb _ (Nat.le_refl _))); obtain ⟨h1', h2', h3', h4', h5'⟩ := facts _ hBb)
        | (gi_at_call 30; refine (hGr k _ hk2 hBb).mono ?_; rintro e w3 ⟨rfl, hb3⟩; have hB3' := hBb.bl (hb3.mono (Nat.le_trans hn0 hBb.size)); have hJ3 := hJm _ _ _ hJb hb3; have hi3 := hib.below hb3 (by omega); obtain ⟨i1', i2', i3', i4', i5'⟩ := facts _ hB3')
        | (gi_at_call 49; refine (hOut _ _ hk2 hB3').mono ?_; rintro e w4 ⟨rfl, hb4⟩; have hB4' := hB3'.bl (hb4.mono (Nat.le_trans hn0 hB3'.size)); have hJ4 := hJm _ _ _ hJ3 hb4; have hi4 := hi3.below hb4 (by have := hb3.size; omega); obtain ⟨j1', j2', j3', j4', j5'⟩ := facts _ hB4')
        | (refine op_store (xs := itC (gr (names k) pre del).1 true 0) hi3 rfl (itC_one _ _ _) rfl rfl rfl rfl ?_; intro w5 hi5 hb5 hs5 _; have hB5' := hB3'.bl (hb5 _ (Nat.le_trans hn0 hB2'.size)); have hJ5 := hJm _ _ _ hJ2 ((hba.trans (hbb _ (Nat.le_refl _))).trans ((hb3.mono (by omega)).trans (hb5 _ (Nat.le_refl _)))))
        | (refine op_load hi4 rfl rfl rfl ?_; obtain ⟨fn, tmps, assign, body, hy, hR⟩ := hY ys ⟨names k, false, k⟩ w4 hJ4 (by omega); dsimp only [It.val] at hy)
        | (refine op_load hi5 rfl rfl rfl ?_; obtain ⟨fn, tmps, assign, body, hy, hR⟩ := hY ys ⟨(gr (names k) pre del).1, true, 0⟩ w5 hJ5 (by omega); dsimp only [It.val] at hy)
        | (refine hR.mono ?_; rintro e W9 (⟨rfl, hJ9, hk9⟩ | ⟨rfl, hJx9⟩))
      all_goals try (have hq : hp (names k) pre = false := by (have h0 : (!hp (names k) pre) = true := by assumption); simpa using h0)
      all_goals try (have hq : hp (names k) pre = true := by (have h0 : (!hp (names k) pre) = false := by assumption); simpa using h0)
      all_goals try (have hor0 : ((gr (names k) pre del).1.toList == last.toList) = true ∨ sle (gr (names k) pre del).1 mar = true := by assumption
                     rcases hor0 with hor | hor)
      all_goals try (have hand0 : ((gr (names k) pre del).1.toList == last.toList) = false ∧ sle (gr (names k) pre del).1 mar = false := by assumption
                     have hand := hand0.2)
      all_goals first
        | (refine ⟨⟨k + 1, ?_, ?_, ?_, hk2, ?_, ?_⟩, ?_⟩
           · rw [hu]; simp [stp, *]; done
           · rw [hu]; simp [stp, *]; done
           · simp; done
           · first
              | exact hB4'.trans hk9
              | exact hB5'.trans hk9
              | exact hB4'
              | exact hB3'
              | exact hB2'
           · first
              | (refine Eq.mp (congrArg (fun y => J y W9) ?_) hJ9; rw [hu]; simp [stp, *]; done)
              | exact (show (upto hp gr out names pre del mar (k + 1)).ys = ys by rw [hu]; simp [stp, *]; done) ▸ hJ4
              | exact (show (upto hp gr out names pre del mar (k + 1)).ys = ys by rw [hu]; simp [stp, *]; done) ▸ hJ3
              | exact (show (upto hp gr out names pre del mar (k + 1)).ys = ys by rw [hu]; simp [stp, *]; done) ▸ hJ2
           · simp; omega)
        | (go_end0; refine ⟨⟨_, rfl⟩, .inr ⟨_, ?_, hJx9⟩⟩; refine Eq.mp (congrArg (fun y => y <+: _) ?_) hup; rw [hu]; simp [stp, *]; done)
        | (refine bodyPost_ret (results_none rfl _ _ _) rfl ?_; refine ⟨⟨_, rfl⟩, .inr ⟨_, ?_, hJx9⟩⟩; refine Eq.mp (congrArg (fun y => y <+: _) ?_) hup; rw [hu]; simp [stp, *]; done)
        | trace_state
    · have hk3 : k = len := by omega
      subst hk3
      gi_wp2
      go_end0
      exact ⟨⟨_, rfl⟩, .inl ⟨_, rfl, hJ⟩⟩
end Go.Proofs.LP
