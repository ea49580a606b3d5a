/- Bounds on the text that is signed; what Verify tells. -/
import Derived.Test.YtnohmijdpmelpaaGreatSgn
import Derived.Test.YtnohmijdpmelpaaGreatArg
set_option maxRecDepth 100000
set_option linter.unusedVariables false
set_option linter.unusedSimpArgs false
namespace Go.Proofs.YtnohmijdpmelpaaGreat
open Go Go.Am
theorem sgW_app (l m : List (List UInt8)) : sgW (l ++ m) = sgW l + sgW m := by unfold sgW; rw [List.map_append, List.sum_append]
theorem sgW_one (x : List UInt8) : sgW [x] = x.length + 1 := by simp [sgW]
theorem hdW_app (l m : List Hd) : hdW (l ++ m) = hdW l + hdW m := by unfold hdW; rw [List.map_append, List.sum_append]
/-- the parts of a text -/
theorem spI_sum (s : List UInt8) (c : UInt8) : ∀ i, i ≤ s.length → sgW (spI s c i).1 = (spI s c i).2
  | 0, _ => rfl
  | i + 1, h => by
    have ih := spI_sum s c i (by omega)
    have hle := (spI_le s c i).2
    unfold spI
    split
    · rw [sgW_app, sgW_one, ih, List.length_drop, List.length_take]
      omega
    · exact ih
theorem splitL_sum (s : List UInt8) (c : UInt8) : sgW (splitL s c) = s.length + 1 := by
  have h := spI_sum s c s.length (Nat.le_refl _)
  have h2 := (spI_le s c s.length).2
  unfold splitL
  rw [sgW_app, sgW_one, h, List.length_drop]; omega
theorem cutF_sum (s : List UInt8) (c : UInt8) : (cutF s c).1.length + (cutF s c).2.1.length ≤ s.length := by
  unfold cutF
  split
  · simp only [List.length_take, List.length_drop]; omega
  · simp
theorem qN_sum (ps : List (List UInt8)) : ∀ i, i ≤ ps.length → hdW (qN ps i) ≤ sgW (ps.take i)
  | 0, _ => by simp [qN, hdW]
  | i + 1, h => by
    have ih := qN_sum ps i (by omega)
    have hi : i < ps.length := h
    rw [take_snoc [] hi, sgW_app, sgW_one]
    unfold qN
    split
    · omega
    · rw [hdW_app]
      have := cutF_sum (ps.getD i []) 61
      simp only [hdW, List.map_cons, List.map_nil, List.sum_cons, List.sum_nil] at ih ⊢
      omega
theorem query_sum (t : List UInt8) : hdW (queryQ t) ≤ t.length + 1 := by
  have h := qN_sum (splitL (cutF t 63).2.1 38) (splitL (cutF t 63).2.1 38).length (Nat.le_refl _)
  rw [List.take_length, splitL_sum] at h
  have := (cut_len t 63).2
  unfold queryQ; omega
theorem cP_sum (pre : Bool) : ∀ (l ps : List Hd), cPairs pre l = some ps → hdW ps ≤ 3 * hdW l
  | [], ps, h => by unfold cPairs at h; cases h; simp [hdW]
  | p :: r, ps, h => by
    have ih := cP_sum pre r
    have e : hdW (p :: r) = p.1.length + p.2.length + 1 + hdW r := by simp [hdW]
    rw [e]
    unfold cPairs at h
    split at h
    · have := ih ps h; omega
    · split at h
      · rename_i a b ha hb
        cases e2 : cPairs pre r with
        | none => rw [e2] at h; cases h
        | some qs =>
          rw [e2] at h; cases h
          have := ih qs e2
          have u1 := unesc_le ha
          have u2 := unesc_le hb
          have e3 := escL_len false a
          have e4 := escL_len false b
          have e5 : hdW ((escL a false, escL b false) :: qs) = (escL a false).length + (escL b false).length + 1 + hdW qs := by simp [hdW]
          rw [e5]; omega
      · cases h
theorem perm_sum {α : Type} (f : α → Nat) {l m : List α} (h : l.Perm m) : (l.map f).sum = (m.map f).sum := (h.map f).sum_nat
theorem queryC_sum {t q : List UInt8} {pre : Bool} (h : queryC t pre = some q) : q.length ≤ 6 * (t.length + 1) := by
  unfold queryC at h
  cases e : cPairs pre (queryQ t) with
  | none => rw [e] at h; cases h
  | some ps =>
    rw [e] at h; cases h
    have h1 := cP_sum pre _ ps e
    have h2 := query_sum t
    have h3 := joinL_sum ((sortP ps).map fmtP) [38]
    rw [List.map_map] at h3
    have h4 : ((sortP ps).map ((fun x : List UInt8 => x.length + ([38] : List UInt8).length) ∘ fmtP)).sum ≤ ((sortP ps).map fun p => 2 * (p.1.length + p.2.length + 1)).sum := sum_le _ _ (fun p => by simp [fmtP]; omega) _
    have h5 : ((sortP ps).map fun p : Hd => 2 * (p.1.length + p.2.length + 1)).sum = (ps.map fun p : Hd => 2 * (p.1.length + p.2.length + 1)).sum := perm_sum _ (sortP_perm ps)
    have h6 : (ps.map fun p : Hd => 2 * (p.1.length + p.2.length + 1)).sum = 2 * hdW ps := by
      unfold hdW
      clear e h1 h3 h4 h5
      induction ps with
      | nil => rfl
      | cons p r ih => simp only [List.map_cons, List.sum_cons] at ih ⊢; rw [ih]; omega
    show (joinL ((sortP ps).map fmtP) [38]).length ≤ _
    omega
/-- what a header adds to a name's line -/
def cW (p : Hd) (n : List UInt8) : Nat := if p.1 = n then (foldL p.2).length + 1 else 0
theorem aN_cW (l : List Hd) (n : List UInt8) : ∀ i, i ≤ l.length → ((aN l n i).map fun x => (foldL x).length + 1).sum = ((l.take i).map fun p => cW p n).sum
  | 0, _ => by simp [aN]
  | i + 1, h => by
    have ih := aN_cW l n i (by omega)
    have hi : i < l.length := h
    rw [take_snoc ([], []) hi, List.map_append, List.sum_append]
    unfold aN
    simp only [List.map_cons, List.map_nil, List.sum_cons, List.sum_nil]
    unfold cW at ih ⊢
    split
    · rw [List.map_append, List.sum_append, ih]
      simp only [List.map_cons, List.map_nil, List.sum_cons, List.sum_nil]
    · rw [ih]; rfl
theorem vals_cW (hd : List Hd) (n : List UInt8) : (joinL (valsL hd n) [44]).length ≤ (hd.map fun p => cW p n).sum := by
  have h1 := joinL_sum (valsL hd n) [44]
  have h2 := aN_cW hd n hd.length (Nat.le_refl _)
  rw [List.take_length] at h2
  have e : ((valsL hd n).map fun x => x.length + ([44] : List UInt8).length).sum = ((aN hd n hd.length).map fun x => (foldL x).length + 1).sum := by
    unfold valsL allL; rw [List.map_map]; rfl
  rw [e, h2] at h1
  exact h1
theorem sum_add {α : Type} (f g : α → Nat) : ∀ l : List α, (l.map fun x => f x + g x).sum = (l.map f).sum + (l.map g).sum
  | [] => rfl
  | x :: l => by simp only [List.map_cons, List.sum_cons, sum_add f g l]; omega
theorem sum_zero {α : Type} : ∀ l : List α, (l.map fun _ => 0).sum = 0
  | [] => rfl
  | x :: l => by rw [List.map_cons, List.sum_cons, sum_zero l]
theorem cW_nodup (p : Hd) : ∀ ns : List (List UInt8), ns.Nodup → (ns.map fun n => cW p n).sum ≤ p.2.length + 1
  | [], _ => Nat.zero_le _
  | n :: ns, h => by
    rw [List.nodup_cons] at h
    rw [List.map_cons, List.sum_cons]
    by_cases e : p.1 = n
    · have h0 : (ns.map fun n => cW p n).sum = 0 := by
        have : ns.map (fun n => cW p n) = ns.map fun _ => 0 := List.map_congr_left fun m hm => by
          unfold cW; rw [if_neg (fun e2 => h.1 (by rw [← e, e2]; exact hm))]
        rw [this]; exact sum_zero ns
      have h1 : cW p n = (foldL p.2).length + 1 := if_pos e
      have := fold_len p.2
      omega
    · have h1 : cW p n = 0 := if_neg e
      have := cW_nodup p ns h.2
      omega
theorem sum_swap (ns : List (List UInt8)) : ∀ hd : List Hd, (ns.map fun n => (hd.map fun p => cW p n).sum).sum = (hd.map fun p => (ns.map fun n => cW p n).sum).sum
  | [] => by
    simp only [List.map_nil, List.sum_nil]
    induction ns with
    | nil => rfl
    | cons n ns ih => simp only [List.map_cons, List.sum_cons, ih]; rfl
  | p :: hd => by
    simp only [List.map_cons, List.sum_cons]
    rw [sum_add, sum_swap ns hd]
theorem lines_nodup (hd : List Hd) (ns : List (List UInt8)) (h : ns.Nodup) : (ns.flatMap (lineL hd)).length ≤ 2 * sgW ns + hdW hd := by
  have h1 : ∀ l : List (List UInt8), (l.flatMap (lineL hd)).length ≤ 2 * sgW l + (l.map fun n => (hd.map fun p => cW p n).sum).sum := by
    intro l
    induction l with
    | nil => simp [sgW]
    | cons n l ih =>
      have hv := vals_cW hd n
      have e : sgW (n :: l) = n.length + 1 + sgW l := by simp [sgW]
      rw [List.flatMap_cons, List.length_append, List.map_cons, List.sum_cons, e]
      have : (lineL hd n).length = n.length + 1 + (joinL (valsL hd n) [44]).length + 1 := by unfold lineL; simp only [List.length_append, List.length_cons, List.length_nil]
      omega
  have h2 := h1 ns
  rw [sum_swap] at h2
  have h3 : (hd.map fun p => (ns.map fun n => cW p n).sum).sum ≤ hdW hd := sum_le _ _ (fun p => Nat.le_trans (cW_nodup p ns h) (by omega)) hd
  omega
theorem rising_nodup {ns : List (List UInt8)} (h : ∀ i, i < ns.length → 0 < i → ltL (ns.getD (i - 1) []) (ns.getD i []) = true) : ns.Nodup := by
  have key : ∀ j i, i < j → j < ns.length → ltL (ns.getD i []) (ns.getD j []) = true := by
    intro j
    induction j with
    | zero => intro i hi; omega
    | succ j ih =>
      intro i hi hj
      have h1 := h (j + 1) hj (by omega)
      rw [Nat.add_sub_cancel] at h1
      by_cases e : i = j
      · subst e; exact h1
      · exact ltL_tr (ih i (by omega) (by omega)) h1
  refine List.pairwise_iff_getElem.2 fun i j hi hj hij e => ?_
  have := key j i hij hj
  rw [List.getD_eq_getElem?_getD, List.getD_eq_getElem?_getD, List.getElem?_eq_getElem hi, List.getElem?_eq_getElem hj] at this
  simp only [Option.getD_some, e] at this
  rw [ltL_irr] at this; cases this
theorem SgnP.nodup {hd : List Hd} {ns : List (List UInt8)} (h : SgnP hd ns) : ns.Nodup := rising_nodup fun i hi h0 => (h.1 i hi).1 h0
theorem canon_len {m t : List UInt8} {hd : List Hd} {ns : List (List UInt8)} {pay x : List UInt8} {pre : Bool} (hn : ns.Nodup) (h : canonL m t hd ns pay pre = some x) : x.length ≤ m.length + 9 * (t.length + 1) + 3 * sgW ns + hdW hd + pay.length + 5 := by
  unfold canonL at h
  split at h
  · rename_i p q hp hq
    cases h
    have h1 := escL_len true p
    have h2 := unesc_le hp
    have h3 := queryP_len t
    have h4 := queryC_sum hq
    have h5 := lines_nodup hd ns hn
    have h6 := joinL_sum ns [59]
    have e : (ns.map fun x => x.length + ([59] : List UInt8).length).sum = sgW ns := rfl
    rw [e] at h6
    unfold textC headC
    simp only [List.length_append, List.length_cons, List.length_nil]
    omega
  · cases h
/-- a time's day stands ahead in its text -/
theorem parsO_day {s : List UInt8} {tm : Nat} (h : parsO s = some tm) : ∃ y m q n r, TimeOf tm y m q n r ∧ dayT y m q = s.take 8 := by
  unfold parsO at h
  split at h
  · rename_i y m d h' mi se e
    split at h
    · rename_i hk
      simp only [Option.some.injEq] at h
      subst h
      refine ⟨y, m, d - 1, _, _, ⟨okD_date hk.1, (okD_sec hk.1).1, (okD_sec hk.1).2⟩, ?_⟩
      conv => rhs; rw [← hk.2]
      unfold basT
      simp only [List.append_assoc]
      exact (List.take_left' (dayT_len y m (d - 1))).symm
    · cases h
  · cases h
theorem parsO_16 {s : List UInt8} {tm : Nat} (h : parsO s = some tm) : s.length = 16 := by
  apply Classical.byContradiction
  intro hn
  rw [parsO_len hn] at h; cases h
theorem day_of {s : List UInt8} {tm : Nat} (h : parsO s = some tm) : FnOK Tryz.prog 38 [.int .i64 tm] [] (.str (s.take 8)) [] := by
  obtain ⟨y, m, q, n, r, ht, hd⟩ := parsO_day h
  rw [← hd]
  exact day_ok ht.date tm ht.le ht.eq
theorem rday_of {s : List UInt8} {tm : Nat} (h : parsO s = some tm) : FnOK Tryz.prog 46 [.int .i64 tm] [] (.str (s.take 8)) [] := by
  obtain ⟨y, m, q, n, r, ht, hd⟩ := parsO_day h
  rw [← hd]
  exact rday_ok ht.date tm ht.le ht.eq
theorem parsO_le {s : List UInt8} {tm : Nat} (h : parsO s = some tm) : tm ≤ 253402300799 := by
  obtain ⟨y, m, q, n, r, ht, hd⟩ := parsO_day h
  exact ht.le
end Go.Proofs.YtnohmijdpmelpaaGreat
set_option maxRecDepth 100000
set_option linter.unusedVariables false
set_option linter.unusedSimpArgs false
namespace Go.Proofs.YtnohmijdpmelpaaGreat
open Go Go.Am

/-- who asks -/
structure Wh where
  id : List UInt8
  date : List UInt8
  scope : List UInt8
  sig : List UInt8
  key : List UInt8
  pay : List UInt8
def payO (q : Bool) (hd : List Hd) : Option (List UInt8) := if q = true then some unsP else if (allL hd xshaN).length = 1 then some ((allL hd xshaN).getD 0 []) else none
abbrev dayS (c : Cl) : List UInt8 := c.date.take 8
abbrev keyS (c : Cl) (k : Hd) : List UInt8 := skS k.2 (dayS c) usE s3E
abbrev scpS (c : Cl) : List UInt8 := dayS c ++ scopeS
def bodC (c : Cl) (k : Hd) (pay body : List UInt8) : Sum Int Wh := if payC pay body = 0 then .inr ⟨k.1, c.date, scpS c, c.sig, keyS c k, pay⟩ else .inl (payC pay body)
def canC (m t : List UInt8) (hd : List Hd) (body : List UInt8) (c : Cl) (k : Hd) (pay : List UInt8) : Sum Int Wh := match canonL m t hd (splitL c.sg 59) pay c.q with
  | none => .inl 331
  | some x => if signS (keyS c k) c.date (scpS c) x = c.sig then bodC c k pay body else .inl 301
def timC (m t : List UInt8) (hd : List Hd) (body : List UInt8) (now : Int) (c : Cl) (tm : Nat) (k : Hd) : Sum Int Wh :=
  if sgnB hd (splitL c.sg 59) = true then (if lateC c.q c.exp tm now = 0 then (match payO c.q hd with
    | none => .inl 332
    | some pay => canC m t hd body c k pay) else .inl (lateC c.q c.exp tm now)) else .inl 300
/-- what Verify tells -/
def verC (m t : List UInt8) (hd : List Hd) (body : List UInt8) (keys : List Hd) (now : Int) : Sum Int Wh := match claimC t hd with
  | .inl e => .inl e
  | .inr c => match parsO c.date with
    | none => .inl 300
    | some tm => match ownC c.cred (dayS c) keys with
      | .inl e => .inl e
      | .inr k => timC m t hd body now c tm k
def whT (r : Sum Int Wh) : AV := match r with
  | .inl e => .tup [.agg [.str [], .str [], .str [], .str [], .bs [] false, .str []], .int .i64 e]
  | .inr w => .tup [.agg [.str w.id, .str w.date, .str w.scope, .str w.sig, .bs w.key false, .str w.pay], .int .i64 0]
abbrev whZ : List AV := [.str [], .str [], .str [], .str [], .bs [] true, .str []]
section
variable {m t : List UInt8} {hd : List Hd} {body : List UInt8} {keys : List Hd} {now : Int} {c : Cl} {tm : Nat} {k : Hd} {pay x : List UInt8}
theorem verC_c {e : Int} (h : claimC t hd = .inl e) : verC m t hd body keys now = .inl e := by unfold verC; rw [h]
theorem verC_p (h : claimC t hd = .inr c) (h2 : parsO c.date = none) : verC m t hd body keys now = .inl 300 := by unfold verC; rw [h]; simp only [h2]
theorem verC_o {e : Int} (h : claimC t hd = .inr c) (h2 : parsO c.date = some tm) (h3 : ownC c.cred (dayS c) keys = .inl e) : verC m t hd body keys now = .inl e := by unfold verC; rw [h]; simp only [h2, h3]
theorem verC_k (h : claimC t hd = .inr c) (h2 : parsO c.date = some tm) (h3 : ownC c.cred (dayS c) keys = .inr k) : verC m t hd body keys now = timC m t hd body now c tm k := by unfold verC; rw [h]; simp only [h2, h3]
theorem timC_s (h : sgnB hd (splitL c.sg 59) = false) : timC m t hd body now c tm k = .inl 300 := if_neg (by rw [h]; exact Bool.false_ne_true)
theorem timC_l (h : sgnB hd (splitL c.sg 59) = true) (h2 : lateC c.q c.exp tm now ≠ 0) : timC m t hd body now c tm k = .inl (lateC c.q c.exp tm now) := by unfold timC; rw [if_pos h, if_neg h2]
theorem timC_p (h : sgnB hd (splitL c.sg 59) = true) (h2 : lateC c.q c.exp tm now = 0) (h3 : payO c.q hd = none) : timC m t hd body now c tm k = .inl 332 := by unfold timC; rw [if_pos h, if_pos h2, h3]
theorem timC_c (h : sgnB hd (splitL c.sg 59) = true) (h2 : lateC c.q c.exp tm now = 0) (h3 : payO c.q hd = some pay) : timC m t hd body now c tm k = canC m t hd body c k pay := by unfold timC; rw [if_pos h, if_pos h2, h3]
theorem canC_n (h : canonL m t hd (splitL c.sg 59) pay c.q = none) : canC m t hd body c k pay = .inl 331 := by unfold canC; rw [h]
theorem canC_s (h : canonL m t hd (splitL c.sg 59) pay c.q = some x) (h2 : signS (keyS c k) c.date (scpS c) x ≠ c.sig) : canC m t hd body c k pay = .inl 301 := by unfold canC; rw [h]; exact if_neg h2
theorem canC_b (h : canonL m t hd (splitL c.sg 59) pay c.q = some x) (h2 : signS (keyS c k) c.date (scpS c) x = c.sig) : canC m t hd body c k pay = bodC c k pay body := by unfold canC; rw [h]; exact if_pos h2
theorem bodC_n (h : payC pay body ≠ 0) : bodC c k pay body = .inl (payC pay body) := if_neg h
theorem bodC_y (h : payC pay body = 0) : bodC c k pay body = .inr ⟨k.1, c.date, scpS c, c.sig, keyS c k, pay⟩ := if_pos h
theorem errC_ne {o : Option (List UInt8)} (h : errC o ≠ 0) : o = none ∧ errC o = 331 := by
  cases o with
  | none => exact ⟨rfl, rfl⟩
  | some x => exact absurd rfl h
theorem errC_eq {o : Option (List UInt8)} (h : errC o = 0) : ∃ x, o = some x := by
  cases o with
  | none => exact absurd h (by decide)
  | some x => exact ⟨x, rfl⟩
end
/-- bounds on what Verify is handed -/
structure VB (m t : List UInt8) (hd : List Hd) (body : List UInt8) (keys : List Hd) (now : Int) : Prop where
  tot : m.length + t.length + hdW hd + body.length + hdW keys ≤ 1048576
  n0 : -9223372036854775808 ≤ now
  n1 : now ≤ 9223372036854775807
theorem hdW_len (l : List Hd) : l.length ≤ hdW l := sum_len (fun p : Hd => p.1.length + p.2.length + 1) (fun x => by omega) l
theorem hdW_mem {l : List Hd} {p : Hd} (h : p ∈ l) : p.1.length + p.2.length + 1 ≤ hdW l := sum_mem (fun p : Hd => p.1.length + p.2.length + 1) l p h
theorem VB.rb {m t hd body keys now} (b : VB m t hd body keys now) : RB t hd := ⟨by have := b.tot; omega, by have := b.tot; have := hdW_len hd; omega, fun p hp => by have := b.tot; have := hdW_mem hp; omega⟩
theorem VB.auth {m t hd body keys now} (b : VB m t hd body keys now) (n : List UInt8) (i : Nat) : ((allL hd n).getD i []).length ≤ 1048576 := by
  refine getD_le (B := 1048576) (fun x hx => ?_) i
  rcases allL_mem hx with rfl | ⟨p, hp, rfl⟩
  · simp
  · have := hdW_mem hp; have := b.tot; omega
structure ClB (c : Cl) : Prop where
  cred : c.cred.length ≤ 1048576
  sg : c.sg.length ≤ 1048576
  sig : c.sig.length ≤ 1048576
  date : c.date.length ≤ 1048576
  exp : c.exp ≤ 604800
theorem VB.cl {m t hd body keys now} (b : VB m t hd body keys now) {c : Cl} (h : claimC t hd = .inr c) : ClB c := by
  have hq : ∀ p ∈ queryQ t, p.1.length ≤ 1048576 ∧ p.2.length ≤ 1048576 := fun p hp => by have := query_part t p hp; have := b.tot; omega
  unfold claimC at h
  split at h
  · cases h
  · split at h
    · cases h
    · split at h
      · unfold qryC at h
        split at h
        · split at h
          · split at h
            · rename_i hf
              simp only [Sum.inr.injEq] at h
              subst h
              exact ⟨vQ_le hq 1, vQ_le hq 4, vQ_le hq 5, vQ_le hq 2, hf.2.2.2.1⟩
            · cases h
          · cases h
        · cases h
      · unfold hdrC at h
        have ha := b.auth authN 0
        split at h
        · split at h
          · simp only [Sum.inr.injEq] at h
            subst h
            have hm := hdrL_mem ((authL hd).getD 0 []) 1048576 ha
            exact ⟨fldO_le (b := credB) hm, fldO_le (b := sgB) hm, fldO_le (b := sigB) hm, b.auth xdateN 0, Nat.zero_le _⟩
          · cases h
        · cases h
theorem VB.pay {m t hd body keys now} (b : VB m t hd body keys now) {q : Bool} {pay : List UInt8} (h : payO q hd = some pay) : pay.length ≤ 1048576 := by
  unfold payO at h
  split at h
  · cases h; decide
  · split at h
    · cases h; exact b.auth xshaN 0
    · cases h
theorem VB.bd {m t hd body keys now} (b : VB m t hd body keys now) {c : Cl} (h : ClB c) {q : Bool} {pay : List UInt8} (hp : payO q hd = some pay) : Bd m t hd (splitL c.sg 59) pay := by
  have h1 := b.tot
  have h2 := b.pay hp
  have h3 := splitL_sum c.sg 59
  have h4 := h.sg
  exact Bd.of (by omega) (by omega)
theorem VB.txt {m t hd body keys now} (b : VB m t hd body keys now) {c : Cl} (h : ClB c) {pay x : List UInt8} (hp : pay.length ≤ 1048576) (hs : sgnB hd (splitL c.sg 59) = true) (hx : canonL m t hd (splitL c.sg 59) pay c.q = some x) : x.length ≤ 16777216 := by
  have h1 := canon_len (of_decide_eq_true hs).nodup hx
  have h2 := b.tot
  have h3 := splitL_sum c.sg 59
  have h4 := h.sg
  omega
theorem keyN_mem {keys : List Hd} {nm : List UInt8} {k : Hd} (h : keyN keys nm = some k) : k ∈ keys ∧ k.1 = nm := by
  unfold keyN at h
  exact ⟨List.mem_of_find?_eq_some h, by have := List.find?_some h; simpa using this⟩
theorem own_mem {cred day : List UInt8} {keys : List Hd} {k : Hd} (h : ownC cred day keys = .inr k) : k ∈ keys ∧ k.1 = ownN cred day := by
  unfold ownC at h
  split at h
  · split at h
    · rename_i e; cases h; exact keyN_mem e
    · cases h
  · cases h

end Go.Proofs.YtnohmijdpmelpaaGreat
