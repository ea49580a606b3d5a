/- The document's Verify. -/
import Derived.Test.YtnohmijdpmelpaaGreatPv
set_option maxRecDepth 100000
set_option linter.unusedVariables false
set_option linter.unusedSimpArgs false
namespace Go.Proofs.YtnohmijdpmelpaaGreat
open Go Go.Am Go.Am.Runs

/-- a text cut at a byte that its beginning has not -/
theorem cut_atG (c : UInt8) (p r : List UInt8) (hp : ¬ c ∈ p) : cutF (p ++ [c] ++ r) c = (p, r, true) := by
  have h0 : 0 ≤ Lib.indexByte (p ++ [c] ++ r) c := by
    rcases Int.lt_or_le (Lib.indexByte (p ++ [c] ++ r) c) 0 with h | h
    · have h1 := Lib.indexByte_ge (p ++ [c] ++ r) c
      have h2 := Lib.indexByte_none (show Lib.indexByte (p ++ [c] ++ r) c = -1 by omega) p.length
      exfalso; apply h2; simp
    · exact h
  obtain ⟨i, hi⟩ := Int.eq_ofNat_of_zero_le h0
  obtain ⟨h1, h2⟩ := Lib.indexByte_some hi
  have hip : i = p.length := by
    rcases Nat.lt_trichotomy i p.length with h | h | h
    · exfalso
      rw [List.append_assoc, List.getElem?_append_left h] at h1
      exact hp (List.mem_of_getElem? h1)
    · exact h
    · exfalso
      apply h2 p.length h
      simp
  rw [(cut_some hi).1, hip]
  simp
theorem cut_joinG {x : List UInt8} {c : UInt8} (h : (cutF x c).2.2 = true) : x = (cutF x c).1 ++ [c] ++ (cutF x c).2.1 ∧ ¬ c ∈ (cutF x c).1 := by
  by_cases h0 : 0 ≤ Lib.indexByte x c
  · obtain ⟨i, hi⟩ := Int.eq_ofNat_of_zero_le h0
    obtain ⟨h1, h5⟩ := Lib.indexByte_some hi
    have h2 := cut_some hi
    rw [h2.1]
    simp only
    obtain ⟨h3, h4⟩ := List.getElem_of_getElem? h1
    refine ⟨?_, fun hm => ?_⟩
    · conv => lhs; rw [← List.take_append_drop i x, List.drop_eq_getElem_cons h3, h4]
      simp
    · obtain ⟨k, hk, e⟩ := List.getElem_of_mem hm
      rw [List.length_take] at hk
      rw [List.getElem_take] at e
      exact h5 k (by omega) (by rw [List.getElem?_eq_getElem (by omega), e])
  · rw [cut_none h0] at h; cases h
theorem idx_no {s : List UInt8} {c : UInt8} : ¬ 0 ≤ Lib.indexByte s c ↔ ¬ c ∈ s := by
  constructor
  · intro h hm
    have h1 := Lib.indexByte_ge s c
    obtain ⟨k, hk, e⟩ := List.getElem_of_mem hm
    exact Lib.indexByte_none (show Lib.indexByte s c = -1 by omega) k (by rw [List.getElem?_eq_getElem hk, e])
  · intro h h0
    obtain ⟨i, hi⟩ := Int.eq_ofNat_of_zero_le h0
    exact h (List.mem_of_getElem? (Lib.indexByte_some hi).1)
theorem endL_iff {s p : List UInt8} : endL s p = true ↔ ∃ r, s = r ++ p := by
  unfold endL
  rw [Bool.and_eq_true, decide_eq_true_eq, beq_iff_eq]
  constructor
  · rintro ⟨_, h⟩
    exact ⟨s.take (s.length - p.length), by conv => lhs; rw [← List.take_append_drop (s.length - p.length) s, h]⟩
  · rintro ⟨r, rfl⟩
    exact ⟨by simp, by simp⟩
/-- a credential: as the program reads it and as the document does -/
theorem own_cut (cred day : List UInt8) : OwnOK cred day ↔ (cutF cred 47).2.2 = true ∧ (cutF cred 47).1 ≠ [] ∧ (cutF cred 47).2.1 = day ++ scopeS := by
  unfold OwnOK ownN
  constructor
  · rintro ⟨h1, h2, h3⟩
    have he : endL cred ([47] ++ day ++ scopeS) = true := by
      unfold cutsL at h1
      split at h1
      · assumption
      · cases h1
    obtain ⟨r, hr⟩ := endL_iff.1 he
    have e1 : (cutsL cred ([47] ++ day ++ scopeS)).1 = r := by rw [cuts_t he, hr]; simp
    rw [e1] at h2 h3
    have h4 := idx_no.1 h3
    have e2 : cred = r ++ [47] ++ (day ++ scopeS) := by rw [hr]; simp
    rw [e2, cut_atG 47 r _ h4]
    exact ⟨rfl, h2, rfl⟩
  · rintro ⟨h1, h2, h3⟩
    obtain ⟨h4, h5⟩ := cut_joinG h1
    rw [h3] at h4
    have he : endL cred ([47] ++ day ++ scopeS) = true := endL_iff.2 ⟨(cutF cred 47).1, h4.trans (by simp)⟩
    have e1 : (cutsL cred ([47] ++ day ++ scopeS)).1 = (cutF cred 47).1 := by
      rw [cuts_t he]
      conv => lhs; rw [h4]
      simp
    rw [e1, cuts_t he]
    exact ⟨rfl, h2, idx_no.2 h5⟩
theorem own_name {cred day : List UInt8} (h : OwnOK cred day) : ownN cred day = (cutF cred 47).1 := by
  obtain ⟨h1, h2, h3⟩ := (own_cut cred day).1 h
  obtain ⟨h4, h5⟩ := cut_joinG h1
  rw [h3] at h4
  have he : endL cred ([47] ++ day ++ scopeS) = true := endL_iff.2 ⟨(cutF cred 47).1, h4.trans (by simp)⟩
  unfold ownN
  rw [cuts_t he]
  conv => lhs; rw [h4]
  simp
theorem payC_dt {pay body : List UInt8} (h : digsL pay = true) (h2 : pay ≠ hexL (shaS body)) : payC pay body = 305 := by unfold payC; rw [if_pos h, if_neg h2]
theorem payC_d0 {pay body : List UInt8} (h : digsL pay = true) (h2 : pay = hexL (shaS body)) : payC pay body = 0 := by unfold payC; rw [if_pos h, if_pos h2]
theorem payC_f0 {pay body : List UInt8} (h : digsL pay = false) (h2 : pay = unsP ∨ pay = strP) : payC pay body = 0 := by unfold payC; rw [if_neg (by rw [h]; exact Bool.false_ne_true), if_pos h2]
theorem payC_fn {pay body : List UInt8} (h : digsL pay = false) (h1 : pay ≠ unsP) (h2 : pay ≠ strP) : payC pay body = 319 := by unfold payC; rw [if_neg (by rw [h]; exact Bool.false_ne_true), if_neg (by rintro (h | h); exact h1 h; exact h2 h)]
section
variable {m t : List UInt8} {hd : List Hd} {body : List UInt8} {keys : List Hd} {now : Int} {c : Cl} {tm : Nat} {k : Hd}
theorem verC_304 (h : claimC t hd = .inr c) (h2 : parsO c.date = some tm) (h3 : ¬ OwnOK c.cred (dayS c)) : verC m t hd body keys now = .inl 304 := verC_o h h2 (ownC_bad h3)
theorem verC_302 (h : claimC t hd = .inr c) (h2 : parsO c.date = some tm) (h3 : OwnOK c.cred (dayS c)) (h4 : keyN keys (cutF c.cred 47).1 = none) : verC m t hd body keys now = .inl 302 := verC_o h h2 (ownC_no h3 (by rw [own_name h3]; exact h4))
theorem verC_key (h : claimC t hd = .inr c) (h2 : parsO c.date = some tm) (h3 : OwnOK c.cred (dayS c)) (h4 : keyN keys (cutF c.cred 47).1 = some k) : verC m t hd body keys now = timC m t hd body now c tm k := verC_k h h2 (ownC_key h3 (by rw [own_name h3]; exact h4))
end

theorem claimC_ne {t : List UInt8} {hd : List Hd} {e : Int} (h : claimC t hd = .inl e) : e ≠ 0 := by
  unfold claimC at h
  split at h
  · cases h; decide
  · split at h
    · cases h; decide
    · split at h
      · unfold qryC at h
        (repeat' split at h) <;> first | (cases h; done) | (cases h; decide)
      · unfold hdrC at h
        (repeat' split at h) <;> first | (cases h; done) | (cases h; decide)
theorem ownC_ne {cred day : List UInt8} {keys : List Hd} {e : Int} (h : ownC cred day keys = .inl e) : e ≠ 0 := by
  unfold ownC at h
  (repeat' split at h) <;> first | (cases h; done) | (cases h; decide)

set_option maxHeartbeats 2000000 in
theorem rver_c (m t : List UInt8) (hd : List Hd) (body : List UInt8) (keys : List Hd) (now : Int) (b : VB m t hd body keys now) {e : Int} (hne : e ≠ 0) (hcl : claimC t hd = .inl e) : FnOK Tryz.prog 15 [.agg [.str m, .str t, .sl 2 hd.length (hdEl hd) false, .bs body false], .sl 2 keys.length (hdEl keys) false, .int .i64 now] [] (whT (verC m t hd body keys now)) [] := by
  refine FnOK.of_runs Tryz.func15 rfl (Nat.le_of_ble_eq_true rfl) ?_
  refine seq (reg [] [] rfl (by decide) ?_)
  refine seq ?_
  have hbt := b.tot
  refine reg [(1, { res := .agg [.str [], .str [], .str [], .str [], .int .i64 0, .bool false, .int .i64 e] })] [] rfl (by and_intros <;> first | exact zl rfl | decide | (have h0 := rclaim_ok m t hd body false b.rb; rw [hcl] at h0; exact h0)) ?_
  refine seq (seq ?_)
  refine reg [(2, { res := .bool true })] [] rfl (by and_intros <;> first | decide | (refine congrArg AV.bool ?_; simp [hne])) ?_
  refine condT rfl (seq (regX [(2, { L := [2], res := .int .i64 e }), (3, { L := [1], res := .bad })] [] rfl rfl rfl (by and_intros <;> first | decide | rfl) ?_))
  exact retD Tryz.func15 rfl rfl rfl (by rw [verC_c hcl]; rfl) (by rfl) rfl

set_option maxHeartbeats 2000000 in
theorem rver_p (m t : List UInt8) (hd : List Hd) (body : List UInt8) (keys : List Hd) (now : Int) (b : VB m t hd body keys now) {c : Cl} (hcl : claimC t hd = .inr c) (hp : parsO c.date = none) : FnOK Tryz.prog 15 [.agg [.str m, .str t, .sl 2 hd.length (hdEl hd) false, .bs body false], .sl 2 keys.length (hdEl keys) false, .int .i64 now] [] (whT (verC m t hd body keys now)) [] := by
  refine FnOK.of_runs Tryz.func15 rfl (Nat.le_of_ble_eq_true rfl) ?_
  refine seq (reg [] [] rfl (by decide) ?_)
  refine seq ?_
  have hbt := b.tot
  have hcb := b.cl hcl
  refine reg [(1, { res := .agg [.str c.cred, .str c.sg, .str c.sig, .str c.date, .int .i64 c.exp, .bool c.q, .int .i64 0] })] [] rfl (by and_intros <;> first | exact zl rfl | decide | (have h0 := rclaim_ok m t hd body false b.rb; rw [hcl] at h0; exact h0)) ?_
  refine seq (seq (reg [(2, { res := .bool false })] [] rfl (by and_intros <;> first | decide | rfl) ?_))
  refine condF rfl (skip (seq (reg [(2, { res := .tup [.int .i64 0, .bool false] })] [] rfl (by and_intros <;> first | decide | (have h0 := rparse_ok c.date (by have := hcb.date; omega); rw [hp] at h0; exact h0)) ?_)))
  refine seq (seq (reg [] [0] rfl (by decide) ?_))
  refine condT rfl (seq (reg [] [] rfl (by and_intros <;> decide) ?_))
  exact retD Tryz.func15 rfl rfl rfl (by rw [verC_p hcl hp]; rfl) (by rfl) rfl

set_option maxHeartbeats 2000000 in
theorem rver_t (m t : List UInt8) (hd : List Hd) (body : List UInt8) (keys : List Hd) (now : Int) (b : VB m t hd body keys now) {c : Cl} {tm : Nat} (hcl : claimC t hd = .inr c) (hp : parsO c.date = some tm) : FnOK Tryz.prog 15 [.agg [.str m, .str t, .sl 2 hd.length (hdEl hd) false, .bs body false], .sl 2 keys.length (hdEl keys) false, .int .i64 now] [] (whT (verC m t hd body keys now)) [] := by
  refine FnOK.of_runs Tryz.func15 rfl (Nat.le_of_ble_eq_true rfl) ?_
  refine seq (reg [] [] rfl (by decide) ?_)
  refine seq ?_
  have hbt := b.tot
  have hcb := b.cl hcl
  have h16 := parsO_16 hp
  have hd8 : (dayS c).length = 8 := by rw [List.length_take]; omega
  refine reg [(1, { res := .agg [.str c.cred, .str c.sg, .str c.sig, .str c.date, .int .i64 c.exp, .bool c.q, .int .i64 0] })] [] rfl (by and_intros <;> first | exact zl rfl | decide | (have h0 := rclaim_ok m t hd body false b.rb; rw [hcl] at h0; exact h0)) ?_
  refine seq (seq (reg [(2, { res := .bool false })] [] rfl (by and_intros <;> first | decide | rfl) ?_))
  refine condF rfl (skip (seq (reg [(2, { res := .tup [.int .i64 tm, .bool true] })] [] rfl (by and_intros <;> first | decide | (have h0 := rparse_ok c.date (by have := hcb.date; omega); rw [hp] at h0; exact h0)) ?_)))
  refine seq (seq (reg [] [0] rfl (by decide) ?_))
  refine condF rfl (skip (seq (reg [(2, { res := .tup [.str (cutF c.cred 47).1, .str (cutF c.cred 47).2.1, .bool (cutF c.cred 47).2.2] })] [] rfl (by and_intros <;> first | decide | exact rcut_ok c.cred 47 (by have := hcb.cred; omega)) ?_)))
  refine seq (regX [(2, { L := [2], res := .str c.date }), (4, { res := .str (dayS c) }), (7, { L := [2], res := .str c.sig }), (9, { L := [3], res := .bad }), (10, { L := [3], res := .bad })] [0, 3] rfl rfl rfl (by (try simp only [List.length_append, List.length_cons, List.length_nil]); and_intros <;> first | exact zl rfl | decide | rfl | exact rday_of hp | omega) ?_)
  refine seq (seq (region (restTo 3 [(9, { res := .str (scpS c) })] [0, 3, 7] rfl (by and_intros <;> decide) ?_)))
  refine splitS 57 rfl (fun g57 => ?_) (fun g57 => ?_)
  · try simp only [zg] at g57
    refine rest [(9, { res := .str (scpS c) })] [0, 3, 7] rfl (by and_intros <;> decide) ?_
    refine condT rfl (seq (reg [] [] rfl (by and_intros <;> decide) ?_))
    exact retD Tryz.func15 rfl rfl rfl (by rw [verC_304 hcl hp (fun h => by obtain ⟨h1, h2, h3⟩ := (own_cut c.cred (dayS c)).1 h; simp_all)]; rfl) (by rfl) rfl
  · try simp only [zg] at g57
    refine restTo 4 [(9, { res := .str (scpS c) })] [0, 3, 7] rfl (by and_intros <;> decide) ?_
    refine splitS 61 rfl (fun g61 => ?_) (fun g61 => ?_)
    · try simp only [zg] at g61
      refine rest [(9, { res := .str (scpS c) })] [0, 3, 7] rfl (by and_intros <;> decide) ?_
      refine condT rfl (seq (reg [] [] rfl (by and_intros <;> decide) ?_))
      exact retD Tryz.func15 rfl rfl rfl (by rw [verC_304 hcl hp (fun h => by obtain ⟨h1, h2, h3⟩ := (own_cut c.cred (dayS c)).1 h; simp_all)]; rfl) (by rfl) rfl
    · try simp only [zg] at g61
      refine rest [(9, { res := .str (scpS c) })] [0, 3, 7] rfl (by and_intros <;> first | decide | rfl) ?_
      refine condS rfl (fun g66 => ?_) (fun g66 => ?_)
      · try simp only [zg] at g66
        refine seq (reg [] [] rfl (by and_intros <;> decide) ?_)
        exact retD Tryz.func15 rfl rfl rfl (by rw [verC_304 hcl hp (fun h => by obtain ⟨h1, h2, h3⟩ := (own_cut c.cred (dayS c)).1 h; simp_all)]; rfl) (by rfl) rfl
      · try simp only [zg] at g66
        refine skip (seq ?_)
        have hok : OwnOK c.cred (dayS c) := (own_cut c.cred (dayS c)).2 ⟨by simp_all, by simp_all, by simp_all⟩
        refine reg [] [] rfl (by decide) ?_
        refine seq (reg [] [] rfl (by decide) ?_)
        refine seq (seq (reg [] [] rfl (by decide) ?_))
        -- join fnd behind block 0
        refine meet (σ := Option Hd) (fun f => keyN keys (cutF c.cred 47).1 = f) (fun f => [(1, .sl 2 keys.length (hdEl keys) false), (2, .int .i64 now), (3, .ptr 0 0), (6, .ptr 1 0), (8, .ptr 2 0), (9, .int .i64 tm), (13, .ptr 3 0), (14, .str ((f.map (·.2)).getD [])), (15, .bool f.isSome)]) (fun _ => [rqB m t hd body, whZ, [.str c.cred, .str c.sg, .str c.sig, .str c.date, .int .i64 c.exp, .bool c.q, .int .i64 0], [.str (cutF c.cred 47).1, .str c.date, .str (scpS c), .str c.sig, .bs [] false, .str unsP]]) (fun f hf => ?_) (fun meet_fnd => Runs.block ?_)
        · skip
          refine seq (seq (reg [] [0] rfl (by decide) ?_))
          refine condS rfl (fun g91 => ?_) (fun g91 => ?_)
          · try simp only [zg] at g91
            refine seq (reg [] [] rfl (by and_intros <;> decide) ?_)
            exact retD Tryz.func15 rfl rfl rfl (by rw [verC_302 hcl hp hok (hf.trans (show f = none by cases f with | none => rfl | some k => simp at g91))]; rfl) (by rfl) rfl
          · try simp only [zg] at g91
            refine skip (seq ?_)
            obtain ⟨k, rfl⟩ := Option.isSome_iff_exists.1 (show f.isSome = true by simpa using g91)
            have hkm := keyN_mem hf; have hkl := hdW_mem hkm.1; have hhl := hdW_len hd; have hsl := splitL_len c.sg 59; have hcs := hcb.sg; replace hbt := hbt
            refine reg [(2, { res := .sl 1 (splitL c.sg 59).length (strEl (splitL c.sg 59)) false })] [] rfl (by and_intros <;> first | decide | exact rsplit_ok c.sg 59 (by have := hcb.sg; omega)) ?_
            refine seq (seq (reg [(3, { res := .bool (sgnB hd (splitL c.sg 59)) })] [2] rfl (by and_intros <;> first | exact ⟨⟩ | exact zl rfl | decide | exact rsigned_ok hd (splitL c.sg 59) (by omega) (fun p hp => by rcases hp with hp | rfl; (have := hdW_mem hp; omega); exact Nat.zero_le _) (by omega)) ?_))
            refine condS rfl (fun g100 => ?_) (fun g100 => ?_)
            · try simp only [zg] at g100
              refine seq (reg [] [] rfl (by and_intros <;> decide) ?_)
              exact retD Tryz.func15 rfl rfl rfl (by rw [verC_key hcl hp hok hf, timC_s (by simpa using g100)]; rfl) (by rfl) rfl
            · try simp only [zg] at g100
              refine skip (seq (seq (reg [(3, { res := .int .i64 (lateC c.q c.exp tm now) })] [1, 2] rfl (by and_intros <;> first | decide | exact rlate_ok c tm now (parsO_le hp) hcb.exp b.n0 b.n1) ?_)))
              refine seq (reg [] [0] rfl (by decide) ?_)
              refine condS rfl (fun g107 => ?_) (fun g107 => ?_)
              · try simp only [zg] at g107
                refine seq (reg [] [1] rfl (by and_intros <;> decide) ?_)
                exact retD Tryz.func15 rfl rfl rfl (by rw [verC_key hcl hp hok hf, timC_l (by simpa using g100) (by simpa using g107)]; rfl) (by rfl) rfl
              · try simp only [zg] at g107
                refine skip (seq (seq (reg [] [] rfl (by decide) ?_)))
                refine meet (σ := List UInt8) (fun pay => payO c.q hd = some pay) (fun pay => [(3, .ptr 0 0), (6, .ptr 1 0), (8, .ptr 2 0), (9, .int .i64 tm), (13, .ptr 3 0), (14, .str k.2), (17, .sl 1 (splitL c.sg 59).length (strEl (splitL c.sg 59)) false)]) (fun pay => [rqB m t hd body, whZ, [.str c.cred, .str c.sg, .str c.sig, .str c.date, .int .i64 c.exp, .bool c.q, .int .i64 0], [.str (cutF c.cred 47).1, .str c.date, .str (scpS c), .str c.sig, .bs [] false, .str pay]]) (fun pay hpy => ?_) (fun meet_pay => Runs.condS rfl (fun g112 => ?_) (fun g112 => ?_))
                · skip
                  have hpl := b.pay hpy
                  refine seq (reg [(6, { res := .tup [.str ((canonL m t hd (splitL c.sg 59) pay c.q).getD []), .int .i64 (errC (canonL m t hd (splitL c.sg 59) pay c.q))] })] [1] rfl (by and_intros <;> first | decide | exact rcanon_ok m t hd body (splitL c.sg 59) pay c.q false (b.bd hcb hpy)) ?_)
                  refine seq (seq (reg [] [0] rfl (by decide) ?_))
                  refine condS rfl (fun g135 => ?_) (fun g135 => ?_)
                  · try simp only [zg] at g135
                    refine seq (reg [] [1] rfl (by and_intros <;> decide) ?_)
                    exact retD Tryz.func15 rfl rfl rfl (by rw [verC_key hcl hp hok hf, timC_c (by simpa using g100) (by simpa using g107) hpy, canC_n (errC_ne (by simpa using g135)).1]; (rw [(errC_ne (by simpa using g135)).2]; rfl)) (by rfl) rfl
                  · try simp only [zg] at g135
                    refine skip (seq ?_)
                    obtain ⟨x, hx⟩ := errC_eq (by simpa using g135)
                    have htx := b.txt hcb hpl (by simpa using g100) hx
                    refine reg [(2, { res := .str (dayS c) }), (3, { res := .bs (keyS c k) false })] [0, 1] rfl (by and_intros <;> first | exact zl rfl | decide | exact rday_of hp | exact rskey_ok k.2 (dayS c) usE s3E (by omega) (by omega) (by decide) (by decide)) ?_
                    refine seq (seq (regD [(7, { res := .str (signS (keyS c k) c.date (scpS c) x) })] [6] rfl rfl rfl (by (try simp only [List.length_append, List.length_cons, List.length_nil]); and_intros <;> first | decide | (rw [hx]; exact rsign_ok (keyS c k) c.date (scpS c) x (by rw [sk_len]; decide) (by omega) (by rw [List.length_append, hd8]; decide) htx)) ?_))
                    refine condS rfl (fun g153 => ?_) (fun g153 => ?_)
                    · try simp only [zg] at g153
                      refine seq (reg [] [] rfl (by and_intros <;> decide) ?_)
                      exact retD Tryz.func15 rfl rfl rfl (by rw [verC_key hcl hp hok hf, timC_c (by simpa using g100) (by simpa using g107) hpy, canC_s hx (by simpa using g153)]; rfl) (by rfl) rfl
                    · try simp only [zg] at g153
                      refine skip (seq (seq ?_))
                      cases hdg : digsL pay
                      · skip
                        refine regD [(2, { res := .bool false }), (9, { res := .str (hexL (shaS body)) })] [3] rfl rfl rfl (by and_intros <;> first | decide | (have h0 := rdigits_ok pay (by omega); rw [hdg] at h0; exact h0)) ?_
                        refine condF rfl (skip (seq (seq (region (restTo 10 [(2, { res := .bool false })] [] rfl (by and_intros <;> first | decide | (have h0 := rdigits_ok pay (by omega); rw [hdg] at h0; exact h0)) ?_)))))
                        refine splitS 177 rfl (fun g177 => ?_) (fun g177 => ?_)
                        · try simp only [zg] at g177
                          refine rest [(2, { res := .bool false })] [] rfl (by and_intros <;> decide) ?_
                          refine condS rfl (fun g181 => ?_) (fun g181 => ?_)
                          · try simp only [zg] at g181
                            refine seq (reg [] [] rfl (by and_intros <;> decide) ?_)
                            exact retD Tryz.func15 rfl rfl rfl (by rw [verC_key hcl hp hok hf, timC_c (by simpa using g100) (by simpa using g107) hpy, canC_b hx (by simpa using g153), bodC_n (by rw [payC_fn hdg (by simpa using g177) (by simpa using g181)]; decide), payC_fn hdg (by simpa using g177) (by simpa using g181)]; rfl) (by rfl) rfl
                          · try simp only [zg] at g181
                            refine skip (seq (reg [] [] rfl (by and_intros <;> first | exact zl rfl | decide) ?_))
                            exact retD Tryz.func15 rfl rfl rfl (by rw [verC_key hcl hp hok hf, timC_c (by simpa using g100) (by simpa using g107) hpy, canC_b hx (by simpa using g153), bodC_y (payC_f0 hdg (.inr (by simpa using g181))), hkm.2]; rfl) (by rfl) rfl
                        · try simp only [zg] at g177
                          refine rest [(2, { res := .bool false })] [] rfl (by and_intros <;> decide) ?_
                          refine condF rfl (skip (seq (reg [] [] rfl (by and_intros <;> first | exact zl rfl | decide) ?_)))
                          exact retD Tryz.func15 rfl rfl rfl (by rw [verC_key hcl hp hok hf, timC_c (by simpa using g100) (by simpa using g107) hpy, canC_b hx (by simpa using g153), bodC_y (payC_f0 hdg (.inl (by simpa using g177))), hkm.2]; rfl) (by rfl) rfl
                      · skip
                        refine regD [(2, { res := .bool true }), (9, { res := .str (hexL (shaS body)) })] [3] rfl rfl rfl (by and_intros <;> first | decide | (have h0 := rdigits_ok pay (by omega); rw [hdg] at h0; exact h0) | exact sum_ok body (by omega)) ?_
                        refine condS rfl (fun g166 => ?_) (fun g166 => ?_)
                        · try simp only [zg] at g166
                          refine seq (reg [] [] rfl (by and_intros <;> decide) ?_)
                          exact retD Tryz.func15 rfl rfl rfl (by rw [verC_key hcl hp hok hf, timC_c (by simpa using g100) (by simpa using g107) hpy, canC_b hx (by simpa using g153), bodC_n (by rw [payC_dt hdg (by simpa using g166)]; decide), payC_dt hdg (by simpa using g166)]; rfl) (by rfl) rfl
                        · try simp only [zg] at g166
                          refine skip (seq (seq (region (rest [(2, { res := .bool true })] [] rfl (by and_intros <;> first | decide | (have h0 := rdigits_ok pay (by omega); rw [hdg] at h0; exact h0)) ?_))))
                          refine condF rfl (skip (seq (reg [] [] rfl (by and_intros <;> first | exact zl rfl | decide) ?_)))
                          exact retD Tryz.func15 rfl rfl rfl (by rw [verC_key hcl hp hok hf, timC_c (by simpa using g100) (by simpa using g107) hpy, canC_b hx (by simpa using g153), bodC_y (payC_d0 hdg (by simpa using g166)), hkm.2]; rfl) (by rfl) rfl
                · try simp only [zg] at g112
                  refine seq (reg [(2, { res := .sl 1 (allL hd xshaN).length (strEl (allL hd xshaN)) false })] [] rfl (by and_intros <;> first | decide | exact rall_ok hd xshaN (by have := hdW_len hd; omega)) ?_)
                  refine seq (seq (reg [] [0] rfl (by decide) ?_))
                  refine condS rfl (fun g118 => ?_) (fun g118 => ?_)
                  · try simp only [zg] at g118
                    refine seq (reg [] [] rfl (by and_intros <;> decide) ?_)
                    exact retD Tryz.func15 rfl rfl rfl (by rw [verC_key hcl hp hok hf, timC_p (by simpa using g100) (by simpa using g107) (by unfold payO; rw [if_neg (by rw [g112]; exact Bool.false_ne_true), if_neg (by omega)])]; rfl) (by rfl) rfl
                  · try simp only [zg] at g118
                    refine skip (reg [(2, { res := .str ((allL hd xshaN).getD 0 []) })] [0] rfl (by and_intros <;> first | exact zl rfl | decide | rfl | omega) ?_)
                    exact meet_pay ((allL hd xshaN).getD 0 []) _ _ (by unfold payO; (rw [g112, if_neg Bool.false_ne_true]; exact if_pos (by omega))) (by exact zag rfl) (by rfl)
                · try simp only [zg] at g112
                  refine skip ?_
                  exact meet_pay (unsP) _ _ (by unfold payO; (rw [g112]; rfl)) (by exact zag rfl) (by rfl)
        · skip
          -- loop 0
          refine loopF (σ := Nat × Option Hd) (fun p => p.1 ≤ keys.length ∧ (match p.2 with | none => keyNo keys (cutF c.cred 47).1 p.1 | some k => keyN keys (cutF c.cred 47).1 = some k)) (fun p => [(1, .sl 2 keys.length (hdEl keys) false), (2, .int .i64 now), (3, .ptr 0 0), (6, .ptr 1 0), (8, .ptr 2 0), (9, .int .i64 tm), (13, .ptr 3 0), (11, .str (cutF c.cred 47).1), (14, .str ((p.2.map (·.2)).getD [])), (15, .bool p.2.isSome), (16, .int .i64 p.1)]) (fun _ => [rqB m t hd body, whZ, [.str c.cred, .str c.sg, .str c.sig, .str c.date, .int .i64 c.exp, .bool c.q, .int .i64 0], [.str (cutF c.cred 47).1, .str c.date, .str (scpS c), .str c.sig, .bs [] false, .str unsP]]) (fun p => keys.length - p.1) ((0, none)) (by exact ⟨Nat.zero_le _, fun j h => absurd h (Nat.not_lt_zero _)⟩) (by exact zag rfl) (by rfl) (fun ⟨i, f⟩ hi ih => ?_)
          have hi1 : i ≤ keys.length := hi.1
          refine seq (seq (region (restTo 5 [] [0, 1, 5] rfl (by decide) ?_)))
          refine splitS 72 rfl (fun g72 => ?_) (fun g72 => ?_)
          · try simp only [zg] at g72
            refine rest [] [0, 1, 5] rfl (by decide) ?_
            refine condS rfl (fun g75 => ?_) (fun g75 => ?_)
            · try simp only [zg] at g75
              refine skip (seq (block (seq (reg [(4, { res := .str (keys.getD i ([], [])).1 })] [0, 1, 5] rfl (by and_intros <;> first | decide | rfl | omega) ?_))))
              refine condS rfl (fun g84 => ?_) (fun g84 => ?_)
              · try simp only [zg] at g84
                have hf0 : f = none := (by cases f with | none => rfl | some k => simp at g75)
                subst hf0
                have hni : i + 1 ≤ keys.length ∧ keyN keys (cutF c.cred 47).1 = some (keys.getD i ([], [])) := ⟨by omega, keyN_hit (by omega) hi.2 g84⟩
                refine seq (reg [(4, { res := .str (keys.getD i ([], [])).2 })] [0, 1] rfl (by and_intros <;> first | decide | rfl | omega) ?_)
                refine reg [] [] rfl (by decide) ?_
                refine inBlock (reg [] [] rfl (by decide) ?_)
                exact ih ((i + 1, some (keys.getD i ([], [])))) _ _ (by exact hni) (by simp only; omega) (by exact agree_cons rfl (by rfl) (agree_cons rfl (by rfl) (agree_cons rfl (by rfl) (agree_cons rfl (by rfl) (agree_cons rfl (by rfl) (agree_cons rfl (by rfl) (agree_cons rfl (by rfl) (agree_cons rfl (by rfl) (agree_cons rfl (by rfl) (agree_cons rfl (by rfl) (agree_cons rfl (by refine congrArg (AV.int _) ?_; show IntKind.i64.wrap ((i : Int) + 1) = ((i + 1 : Nat) : Int); rw [i64_id (by have := hdW_len keys; omega) (by have := hdW_len keys; omega)]; omega) (trivial)))))))))))) (by rfl)
              · try simp only [zg] at g84
                have hf0 : f = none := (by cases f with | none => rfl | some k => simp at g75)
                subst hf0
                have hni : i + 1 ≤ keys.length ∧ keyNo keys (cutF c.cred 47).1 (i + 1) := ⟨by omega, fun j hj => by rcases Nat.lt_or_ge j i with h | h; exact hi.2 j h; (rw [show j = i by omega]; exact g84)⟩
                refine skip (inBlock (reg [] [] rfl (by decide) ?_))
                exact ih ((i + 1, none)) _ _ (by exact hni) (by simp only; omega) (by exact agree_cons rfl (by rfl) (agree_cons rfl (by rfl) (agree_cons rfl (by rfl) (agree_cons rfl (by rfl) (agree_cons rfl (by rfl) (agree_cons rfl (by rfl) (agree_cons rfl (by rfl) (agree_cons rfl (by rfl) (agree_cons rfl (by rfl) (agree_cons rfl (by rfl) (agree_cons rfl (by refine congrArg (AV.int _) ?_; show IntKind.i64.wrap ((i : Int) + 1) = ((i + 1 : Nat) : Int); rw [i64_id (by have := hdW_len keys; omega) (by have := hdW_len keys; omega)]; omega) (trivial)))))))))))) (by rfl)
            · try simp only [zg] at g75
              have hfk : keyN keys (cutF c.cred 47).1 = f := (by cases f with | none => simp at g75 | some k => exact hi.2)
              have hs1 : ((f.map (·.2)).getD [] : List UInt8) = ((keyN keys (cutF c.cred 47).1).map (·.2)).getD [] := by rw [hfk]
              have hs2 : f.isSome = (keyN keys (cutF c.cred 47).1).isSome := by rw [hfk]
              refine exit rfl ?_
              exact meet_fnd (keyN keys (cutF c.cred 47).1) _ _ (by rfl) (by exact agree_cons rfl (by rfl) (agree_cons rfl (by rfl) (agree_cons rfl (by rfl) (agree_cons rfl (by rfl) (agree_cons rfl (by rfl) (agree_cons rfl (by rfl) (agree_cons rfl (by rfl) (agree_cons rfl (by refine congrArg AV.str ?_; exact hs1) (agree_cons rfl (by refine congrArg AV.bool ?_; exact hs2) (trivial)))))))))) (by rfl)
          · try simp only [zg] at g72
            have hfk : keyN keys (cutF c.cred 47).1 = f := (by cases f with | none => exact keyN_none (by have h := hi.2; simp only at h; rwa [show i = keys.length by omega] at h) | some k => exact hi.2)
            have hs1 : ((f.map (·.2)).getD [] : List UInt8) = ((keyN keys (cutF c.cred 47).1).map (·.2)).getD [] := by rw [hfk]
            have hs2 : f.isSome = (keyN keys (cutF c.cred 47).1).isSome := by rw [hfk]
            refine rest [] [0, 1, 5] rfl (by decide) ?_
            refine condF rfl (exit rfl ?_)
            exact meet_fnd (keyN keys (cutF c.cred 47).1) _ _ (by rfl) (by exact agree_cons rfl (by rfl) (agree_cons rfl (by rfl) (agree_cons rfl (by rfl) (agree_cons rfl (by rfl) (agree_cons rfl (by rfl) (agree_cons rfl (by rfl) (agree_cons rfl (by rfl) (agree_cons rfl (by refine congrArg AV.str ?_; exact hs1) (agree_cons rfl (by refine congrArg AV.bool ?_; exact hs2) (trivial)))))))))) (by rfl)


theorem rverify_ok (m t : List UInt8) (hd : List Hd) (body : List UInt8) (keys : List Hd) (now : Int) (b : VB m t hd body keys now) : FnOK Tryz.prog 15 [.agg [.str m, .str t, .sl 2 hd.length (hdEl hd) false, .bs body false], .sl 2 keys.length (hdEl keys) false, .int .i64 now] [] (whT (verC m t hd body keys now)) [] := by
  cases h : claimC t hd with
  | inl e => exact rver_c m t hd body keys now b (claimC_ne h) h
  | inr c =>
    cases h2 : parsO c.date with
    | none => exact rver_p m t hd body keys now b h h2
    | some tm => exact rver_t m t hd body keys now b h h2

end Go.Proofs.YtnohmijdpmelpaaGreat
