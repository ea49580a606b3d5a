/- The program's Verify. -/
import Derived.Test.YtnohmijdpmelpaaGreatRve
import Derived.Test.YtnohmijdpmelpaaGreatFit
set_option maxRecDepth 100000
set_option linter.unusedVariables false
set_option linter.unusedSimpArgs false
namespace Go.Proofs.YtnohmijdpmelpaaGreat
open Go Go.Am Go.Am.Runs

set_option maxHeartbeats 2000000 in
theorem ver_c (m t : List UInt8) (hd : List Hd) (body : List UInt8) (keys : List Hd) (now : Int) (b : VB m t hd body keys now) {e : Int} (hne : e ≠ 0) (hcl : claimC t hd = .inl e) : FnOK Tryz.prog 14 [.agg [.str m, .str t, .sl 2 hd.length (hdEl hd) false, .bs body false], .sl 2 keys.length (hdEl keys) false, .int .i64 now] [] (whT (verC m t hd body keys now)) [] := by
  refine FnOK.of_runs Tryz.func14 rfl (Nat.le_of_ble_eq_true rfl) ?_
  refine seq (reg [] [] rfl (by decide) ?_)
  refine seq ?_
  have hbt := b.tot
  refine reg [(1, { res := .tup [.bad, .int .i64 e] })] [] rfl (by and_intros <;> first | exact ⟨⟩ | exact zl rfl | decide | exact claimed_bad m t hd body false b.rb hcl) ?_
  refine seq (seq ?_)
  refine reg [(1, { res := .bool true })] [0] rfl (by and_intros <;> first | exact ⟨⟩ | exact zl rfl | decide | (refine congrArg AV.bool ?_; simp [hne])) ?_
  refine condT rfl (seq (reg [] [1] rfl (by and_intros <;> first | exact ⟨⟩ | exact zl rfl | decide | skip) ?_))
  exact retD Tryz.func14 rfl rfl rfl (by rw [verC_c hcl]; rfl) (by rfl) rfl

set_option maxHeartbeats 2000000 in
theorem ver_p (m t : List UInt8) (hd : List Hd) (body : List UInt8) (keys : List Hd) (now : Int) (b : VB m t hd body keys now) {c : Cl} (hcl : claimC t hd = .inr c) (hp : parsO c.date = none) : FnOK Tryz.prog 14 [.agg [.str m, .str t, .sl 2 hd.length (hdEl hd) false, .bs body false], .sl 2 keys.length (hdEl keys) false, .int .i64 now] [] (whT (verC m t hd body keys now)) [] := by
  refine FnOK.of_runs Tryz.func14 rfl (Nat.le_of_ble_eq_true rfl) ?_
  refine seq (reg [] [] rfl (by decide) ?_)
  refine seq ?_
  have hbt := b.tot
  have hcb := b.cl hcl
  refine region (restTo 1 [] [] rfl (by decide) ?_)
  refine op rfl rfl rfl (OpSem.callNew (xs := [.agg [.str m, .str t, .sl 2 hd.length (hdEl hd) false, .bs body false]]) (args := [.agg [.str m, .str t, .sl 2 hd.length (hdEl hd) false, .bs body false]]) (Hc' := [rqB m t hd body, clBk c]) (j := 1) (off := 0) (r := .int .i64 0) rfl rfl rfl rfl rfl rfl (claimed_ok m t hd body false b.rb hcl) rfl rfl) ?_
  refine rest [] [] rfl (by decide) ?_
  refine seq (seq (reg [(1, { res := .bool false })] [0] rfl (by and_intros <;> first | exact ⟨⟩ | exact zl rfl | decide | rfl) ?_))
  refine condF rfl (skip (seq (reg [(4, { res := .tup [.int .i64 0, .bool false] })] [0] rfl (by and_intros <;> first | exact ⟨⟩ | exact zl rfl | decide | (have h0 := parse_ok c.date (by have := hcb.date; omega); rw [hp] at h0; exact h0)) ?_)))
  refine seq (seq (reg [] [0] rfl (by decide) ?_))
  refine condT rfl (seq (reg [] [] rfl (by and_intros <;> first | exact ⟨⟩ | exact zl rfl | decide | skip) ?_))
  exact retD Tryz.func14 rfl rfl rfl (by rw [verC_p hcl hp]; rfl) (by rfl) rfl

set_option maxHeartbeats 2000000 in
theorem ver_o (m t : List UInt8) (hd : List Hd) (body : List UInt8) (keys : List Hd) (now : Int) (b : VB m t hd body keys now) {c : Cl} {tm : Nat} {e : Int} (hne : e ≠ 0) (hcl : claimC t hd = .inr c) (hp : parsO c.date = some tm) (hko : ownC c.cred (dayS c) keys = .inl e) : FnOK Tryz.prog 14 [.agg [.str m, .str t, .sl 2 hd.length (hdEl hd) false, .bs body false], .sl 2 keys.length (hdEl keys) false, .int .i64 now] [] (whT (verC m t hd body keys now)) [] := by
  refine FnOK.of_runs Tryz.func14 rfl (Nat.le_of_ble_eq_true rfl) ?_
  refine seq (reg [] [] rfl (by decide) ?_)
  refine seq ?_
  have hbt := b.tot
  have hcb := b.cl hcl
  have h16 := parsO_16 hp
  have hd8 : (dayS c).length = 8 := by rw [List.length_take]; omega
  refine region (restTo 1 [] [] rfl (by decide) ?_)
  refine op rfl rfl rfl (OpSem.callNew (xs := [.agg [.str m, .str t, .sl 2 hd.length (hdEl hd) false, .bs body false]]) (args := [.agg [.str m, .str t, .sl 2 hd.length (hdEl hd) false, .bs body false]]) (Hc' := [rqB m t hd body, clBk c]) (j := 1) (off := 0) (r := .int .i64 0) rfl rfl rfl rfl rfl rfl (claimed_ok m t hd body false b.rb hcl) rfl rfl) ?_
  refine rest [] [] rfl (by decide) ?_
  refine seq (seq (reg [(1, { res := .bool false })] [0] rfl (by and_intros <;> first | exact ⟨⟩ | exact zl rfl | decide | rfl) ?_))
  refine condF rfl (skip (seq (reg [(4, { res := .tup [.int .i64 tm, .bool true] })] [0] rfl (by and_intros <;> first | exact ⟨⟩ | exact zl rfl | decide | (have h0 := parse_ok c.date (by have := hcb.date; omega); rw [hp] at h0; exact h0)) ?_)))
  refine seq (seq (reg [] [0] rfl (by decide) ?_))
  refine condF rfl (skip (seq (reg [(1, { res := .str (dayS c) })] [0] rfl (by and_intros <;> first | exact ⟨⟩ | exact zl rfl | decide | exact day_of hp) ?_)))
  refine seq (region (restTo 1 [] [0, 2] rfl (by and_intros <;> first | exact ⟨⟩ | exact zl rfl | decide | skip) ?_))
  refine op rfl rfl rfl (OpSem.makeBound rfl rfl) ?_
  refine restTo 1 [] [0, 2] rfl (by and_intros <;> first | exact ⟨⟩ | exact zl rfl | decide | skip) ?_
  refine op rfl rfl rfl (OpSem.makeBound rfl rfl) ?_
  refine rest [] [0, 2] rfl (by and_intros <;> first | exact ⟨⟩ | exact zl rfl | decide | skip) ?_
  refine seq (region (restTo 3 [] [0, 1, 2] rfl (by and_intros <;> first | exact ⟨⟩ | exact zl rfl | decide | skip) ?_))
  refine op rfl rfl rfl (OpSem.callBound (L := [3]) (res := .tup [.agg [.str [], .str []], .int .i64 e]) (Hc' := [clBk c]) (xs := [.ptr 3 0, .str (dayS c), .sl 2 keys.length (hdEl keys) false]) (args := [.ptr 0 0, .str (dayS c), .sl 2 keys.length (hdEl keys) false]) rfl rfl rfl rfl rfl rfl (by decide) rfl rfl (by have h0 := owner_ok (sg := splitL c.sg 59) (date := c.date) (sig := c.sig) (exp := c.exp) (q := c.q) (pay := bif c.q then unsP else []) (cred := c.cred) (dayS c) keys (by have := hcb.cred; omega) hd8 (by have := b.tot; have := hdW_len keys; omega); rw [hko] at h0; exact h0) rfl rfl rfl) ?_
  refine rest [] [0, 1, 2] rfl (by and_intros <;> first | exact ⟨⟩ | exact zl rfl | decide | skip) ?_
  refine seq (seq ?_)
  refine reg [(1, { res := .bool true })] [0] rfl (by and_intros <;> first | exact ⟨⟩ | exact zl rfl | decide | (refine congrArg AV.bool ?_; simp [hne])) ?_
  refine condT rfl (seq (reg [] [1] rfl (by and_intros <;> first | exact ⟨⟩ | exact zl rfl | decide | skip) ?_))
  exact retD Tryz.func14 rfl rfl rfl (by rw [verC_o hcl hp hko]; rfl) (by rfl) rfl

set_option maxHeartbeats 2000000 in
theorem ver_k (m t : List UInt8) (hd : List Hd) (body : List UInt8) (keys : List Hd) (now : Int) (b : VB m t hd body keys now) {c : Cl} {tm : Nat} {k : Hd} (hcl : claimC t hd = .inr c) (hp : parsO c.date = some tm) (hko : ownC c.cred (dayS c) keys = .inr k) : FnOK Tryz.prog 14 [.agg [.str m, .str t, .sl 2 hd.length (hdEl hd) false, .bs body false], .sl 2 keys.length (hdEl keys) false, .int .i64 now] [] (whT (verC m t hd body keys now)) [] := by
  refine FnOK.of_runs Tryz.func14 rfl (Nat.le_of_ble_eq_true rfl) ?_
  refine seq (reg [] [] rfl (by decide) ?_)
  refine seq ?_
  have hbt := b.tot
  have hcb := b.cl hcl
  have h16 := parsO_16 hp
  have hd8 : (dayS c).length = 8 := by rw [List.length_take]; omega
  refine region (restTo 1 [] [] rfl (by decide) ?_)
  refine op rfl rfl rfl (OpSem.callNew (xs := [.agg [.str m, .str t, .sl 2 hd.length (hdEl hd) false, .bs body false]]) (args := [.agg [.str m, .str t, .sl 2 hd.length (hdEl hd) false, .bs body false]]) (Hc' := [rqB m t hd body, clBk c]) (j := 1) (off := 0) (r := .int .i64 0) rfl rfl rfl rfl rfl rfl (claimed_ok m t hd body false b.rb hcl) rfl rfl) ?_
  refine rest [] [] rfl (by decide) ?_
  refine seq (seq (reg [(1, { res := .bool false })] [0] rfl (by and_intros <;> first | exact ⟨⟩ | exact zl rfl | decide | rfl) ?_))
  refine condF rfl (skip (seq (reg [(4, { res := .tup [.int .i64 tm, .bool true] })] [0] rfl (by and_intros <;> first | exact ⟨⟩ | exact zl rfl | decide | (have h0 := parse_ok c.date (by have := hcb.date; omega); rw [hp] at h0; exact h0)) ?_)))
  refine seq (seq (reg [] [0] rfl (by decide) ?_))
  refine condF rfl (skip (seq (reg [(1, { res := .str (dayS c) })] [0] rfl (by and_intros <;> first | exact ⟨⟩ | exact zl rfl | decide | exact day_of hp) ?_)))
  refine seq (region (restTo 1 [] [0, 2] rfl (by and_intros <;> first | exact ⟨⟩ | exact zl rfl | decide | skip) ?_))
  refine op rfl rfl rfl (OpSem.makeBound rfl rfl) ?_
  refine restTo 1 [] [0, 2] rfl (by and_intros <;> first | exact ⟨⟩ | exact zl rfl | decide | skip) ?_
  refine op rfl rfl rfl (OpSem.makeBound rfl rfl) ?_
  refine rest [] [0, 2] rfl (by and_intros <;> first | exact ⟨⟩ | exact zl rfl | decide | skip) ?_
  refine seq (region (restTo 3 [] [0, 1, 2] rfl (by and_intros <;> first | exact ⟨⟩ | exact zl rfl | decide | skip) ?_))
  refine op rfl rfl rfl (OpSem.callBound (L := [3]) (res := .tup [.agg [.str k.1, .str k.2], .int .i64 0]) (Hc' := [clBk c]) (xs := [.ptr 3 0, .str (dayS c), .sl 2 keys.length (hdEl keys) false]) (args := [.ptr 0 0, .str (dayS c), .sl 2 keys.length (hdEl keys) false]) rfl rfl rfl rfl rfl rfl (by decide) rfl rfl (by have h0 := owner_ok (sg := splitL c.sg 59) (date := c.date) (sig := c.sig) (exp := c.exp) (q := c.q) (pay := bif c.q then unsP else []) (cred := c.cred) (dayS c) keys (by have := hcb.cred; omega) hd8 (by have := b.tot; have := hdW_len keys; omega); rw [hko] at h0; exact h0) rfl rfl rfl) ?_
  refine rest [] [0, 1, 2] rfl (by and_intros <;> first | exact ⟨⟩ | exact zl rfl | decide | skip) ?_
  refine seq (seq (reg [(1, { res := .bool false })] [0] rfl (by and_intros <;> first | exact ⟨⟩ | exact zl rfl | decide | rfl) ?_))
  refine condF rfl (skip (seq (seq ?_)))
  have hkm := own_mem hko; have hkl := hdW_mem hkm.1; have hhl := hdW_len hd; have hsl := splitL_len c.sg 59; have hcs := hcb.sg; replace hbt := hbt
  refine reg [(2, { L := [3], res := .bool (sgnB hd (splitL c.sg 59)), H' := [clBk c] })] [0] rfl (by and_intros <;> first | exact ⟨⟩ | exact zl rfl | decide | rfl | exact fits_ok m t hd body c.cred c.date c.sig (splitL c.sg 59) c.exp c.q _ (splitL_pos _ _) (by omega) (fun x hx => Nat.le_trans (splitL_le _ _ x hx) (by omega)) (by omega)) ?_
  refine condS rfl (fun g61 => ?_) (fun g61 => ?_)
  · try simp only [zg] at g61
    refine seq (reg [] [] rfl (by and_intros <;> first | exact ⟨⟩ | exact zl rfl | decide | skip) ?_)
    exact retD Tryz.func14 rfl rfl rfl (by rw [verC_k hcl hp hko, timC_s (by simpa using g61)]; rfl) (by rfl) rfl
  · try simp only [zg] at g61
    refine skip (seq (seq (region (restTo 3 [] [0, 1, 2] rfl (by and_intros <;> first | exact ⟨⟩ | exact zl rfl | decide | skip) ?_))))
    refine op rfl rfl rfl (OpSem.callBound (L := [3]) (res := .int .i64 (lateC c.q c.exp tm now)) (Hc' := [clBk c]) (xs := [.ptr 3 0, .int .i64 tm, .int .i64 now]) (args := [.ptr 0 0, .int .i64 tm, .int .i64 now]) rfl rfl rfl rfl rfl rfl (by decide) rfl rfl (late_ok (cred := c.cred) (date := c.date) (sig := c.sig) (sg := splitL c.sg 59) (exp := c.exp) (q := c.q) (pay := bif c.q then unsP else []) tm now (parsO_le hp) hcb.exp b.n0 b.n1) rfl rfl rfl) ?_
    refine rest [] [0, 1, 2] rfl (by and_intros <;> first | exact ⟨⟩ | exact zl rfl | decide | skip) ?_
    refine seq (reg [] [0] rfl (by decide) ?_)
    refine condS rfl (fun g68 => ?_) (fun g68 => ?_)
    · try simp only [zg] at g68
      refine seq (reg [] [1] rfl (by and_intros <;> first | exact ⟨⟩ | exact zl rfl | decide | skip) ?_)
      exact retD Tryz.func14 rfl rfl rfl (by rw [verC_k hcl hp hko, timC_l (by simpa using g61) (by simpa using g68)]; rfl) (by rfl) rfl
    · try simp only [zg] at g68
      refine skip (seq (seq (reg [] [0] rfl (by decide) ?_)))
      refine meet (σ := List UInt8) (fun pay => payO c.q hd = some pay) (fun pay => [(3, .ptr 0 0), (6, .ptr 1 0), (8, .ptr 3 0), (12, .str (dayS c)), (15, .ptr 4 0)]) (fun pay => [rqB m t hd body, whZ, rqB m t hd body, clB c.cred c.date c.sig (splitL c.sg 59) c.exp c.q pay, [.str k.1, .str k.2]]) (fun pay hpy => ?_) (fun meet_pay => Runs.condS rfl (fun g75 => ?_) (fun g75 => ?_))
      · skip
        have hpl := b.pay hpy
        refine seq (regD [(13, { res := .tup [.str ((canonL m t hd (splitL c.sg 59) pay c.q).getD []), .int .i64 (errC (canonL m t hd (splitL c.sg 59) pay c.q))] })] [1, 5, 9, 14, 15, 16, 17, 18] rfl rfl rfl (by and_intros <;> first | exact ⟨⟩ | exact zl rfl | decide | exact ccanon_ok m t hd body (splitL c.sg 59) pay c.q false (b.bd hcb hpy)) ?_)
        refine seq (seq (reg [] [0] rfl (by decide) ?_))
        refine condS rfl (fun g107 => ?_) (fun g107 => ?_)
        · try simp only [zg] at g107
          refine seq (reg [] [1] rfl (by and_intros <;> first | exact ⟨⟩ | exact zl rfl | decide | skip) ?_)
          exact retD Tryz.func14 rfl rfl rfl (by rw [verC_k hcl hp hko, timC_c (by simpa using g61) (by simpa using g68) hpy, canC_n (errC_ne (by simpa using g107)).1]; first | rfl | (rw [(errC_ne (by simpa using g107)).2]; rfl)) (by rfl) rfl
        · try simp only [zg] at g107
          refine skip (seq ?_)
          obtain ⟨x, hx⟩ := errC_eq (by simpa using g107)
          have htx := b.txt hcb hpl (by simpa using g61) hx
          refine reg [(3, { res := .bs (keyS c k) false })] [2] rfl (by and_intros <;> first | exact ⟨⟩ | exact zl rfl | decide | exact skey_ok k.2 (dayS c) usE s3E (by omega) (by omega) (by decide) (by decide)) ?_
          refine seq (seq (regD [(8, { res := .str (signS (keyS c k) c.date (scpS c) x) })] [0, 1, 5, 7, 9] rfl rfl rfl (by (try simp only [List.length_append, List.length_cons, List.length_nil]); and_intros <;> first | exact ⟨⟩ | exact zl rfl | decide | (rw [hx]; exact sign_ok (keyS c k) c.date (scpS c) x (by rw [sk_len]; decide) (by omega) (by rw [List.length_append, hd8]; decide) htx) | omega) ?_))
          refine condS rfl (fun g127 => ?_) (fun g127 => ?_)
          · try simp only [zg] at g127
            refine seq (reg [] [] rfl (by and_intros <;> first | exact ⟨⟩ | exact zl rfl | decide | skip) ?_)
            exact retD Tryz.func14 rfl rfl rfl (by rw [verC_k hcl hp hko, timC_c (by simpa using g61) (by simpa using g68) hpy, canC_s hx (by simpa using g127)]; rfl) (by rfl) rfl
          · try simp only [zg] at g127
            refine skip (seq (seq (regD [(6, { res := .int .i64 (payC pay body) })] [0, 7] rfl rfl rfl (by and_intros <;> first | exact ⟨⟩ | exact zl rfl | decide | exact pay_ok pay body (by omega) (by omega)) ?_)))
            refine seq (reg [] [0] rfl (by decide) ?_)
            refine condS rfl (fun g137 => ?_) (fun g137 => ?_)
            · try simp only [zg] at g137
              refine seq (reg [] [1] rfl (by and_intros <;> first | exact ⟨⟩ | exact zl rfl | decide | skip) ?_)
              exact retD Tryz.func14 rfl rfl rfl (by rw [verC_k hcl hp hko, timC_c (by simpa using g61) (by simpa using g68) hpy, canC_b hx (by simpa using g127), bodC_n (by simpa using g137)]; rfl) (by rfl) rfl
            · try simp only [zg] at g137
              refine skip (seq (regX [(1, { L := [4], res := .str k.1 }), (5, { L := [3], res := .str c.date }), (11, { L := [3], res := .str c.sig }), (16, { L := [3], res := .str pay }), (18, { L := [1], res := .bad })] [2, 6, 8, 12, 13, 19] rfl rfl rfl (by (try simp only [List.length_append, List.length_cons, List.length_nil]); and_intros <;> first | exact ⟨⟩ | exact zl rfl | decide | rfl | omega) ?_))
              exact retD Tryz.func14 rfl rfl rfl (by rw [verC_k hcl hp hko, timC_c (by simpa using g61) (by simpa using g68) hpy, canC_b hx (by simpa using g127), bodC_y (by simpa using g137)]; rfl) (by rfl) rfl
      · try simp only [zg] at g75
        refine seq (reg [(2, { res := .sl 1 (allL hd xshaN).length (strEl (allL hd xshaN)) false })] [] rfl (by and_intros <;> first | exact ⟨⟩ | exact zl rfl | decide | exact all_ok hd xshaN (by have := hdW_len hd; omega)) ?_)
        refine seq (seq (reg [] [0] rfl (by decide) ?_))
        refine condS rfl (fun g81 => ?_) (fun g81 => ?_)
        · try simp only [zg] at g81
          refine seq (reg [] [] rfl (by and_intros <;> first | exact ⟨⟩ | exact zl rfl | decide | skip) ?_)
          exact retD Tryz.func14 rfl rfl rfl (by rw [verC_k hcl hp hko, timC_p (by simpa using g61) (by simpa using g68) (by unfold payO; rw [if_neg (by rw [g75]; exact Bool.false_ne_true), if_neg (by omega)])]; rfl) (by rfl) rfl
        · try simp only [zg] at g81
          refine skip (reg [(3, { res := .str ((allL hd xshaN).getD 0 []) })] [0, 1] rfl (by and_intros <;> first | exact ⟨⟩ | exact zl rfl | decide | rfl | omega) ?_)
          exact meet_pay ((allL hd xshaN).getD 0 []) _ _ (by unfold payO; first | (rw [g75, if_neg Bool.false_ne_true]; exact if_pos (by omega)) | (rw [g75]; rfl)) (by exact zag rfl) (by first | rfl | (unfold clBk; rw [g75]; rfl))
      · try simp only [zg] at g75
        refine skip ?_
        exact meet_pay (unsP) _ _ (by unfold payO; first | (rw [g75, if_neg Bool.false_ne_true]; exact if_pos (by omega)) | (rw [g75]; rfl)) (by exact zag rfl) (by first | rfl | (unfold clBk; rw [g75]; rfl))


theorem verify_ok (m t : List UInt8) (hd : List Hd) (body : List UInt8) (keys : List Hd) (now : Int) (b : VB m t hd body keys now) : FnOK Tryz.prog 14 [.agg [.str m, .str t, .sl 2 hd.length (hdEl hd) false, .bs body false], .sl 2 keys.length (hdEl keys) false, .int .i64 now] [] (whT (verC m t hd body keys now)) [] := by
  cases h : claimC t hd with
  | inl e => exact ver_c m t hd body keys now b (claimC_ne h) h
  | inr c =>
    cases h2 : parsO c.date with
    | none => exact ver_p m t hd body keys now b h h2
    | some tm =>
      cases h3 : ownC c.cred (dayS c) keys with
      | inl e => exact ver_o m t hd body keys now b (ownC_ne h3) h h2 h3
      | inr k => exact ver_k m t hd body keys now b h h2 h3

end Go.Proofs.YtnohmijdpmelpaaGreat
