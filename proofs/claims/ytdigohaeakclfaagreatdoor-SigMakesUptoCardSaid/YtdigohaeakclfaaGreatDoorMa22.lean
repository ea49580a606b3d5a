/- Requests signed: what Header and Presign call. -/
import Derived.Test.YtdigohaeakclfaaGreatDoorMa19
import Derived.Test.YtdigohaeakclfaaGreatDoorMa12
import Derived.Test.YtdigohaeakclfaaGreatDoorMa16
import Derived.Test.YtdigohaeakclfaaGreatDoorMa14
set_option maxRecDepth 100000
set_option linter.unusedVariables false
set_option linter.unusedSimpArgs false
namespace Go.Proofs.YtdigohaeakclfaaGreatDoor
open Go Go.Am

instance tabM : Tab := ⟨fun b => if b = 1 then some ((Lib.pow10Tab.map fun z => Value.int .u64 z).toArray) else none⟩
theorem tab_is {G : Gh} {w : World} (h : WI G w) : Lib.TabIs Tryz.prog w "internal/strconv.uint64pow10" .u64 Lib.pow10Tab := by
  obtain ⟨⟨e, fz, h1⟩, _⟩ := h.tab 1 _ rfl
  unfold Lib.TabIs World.var?
  rw [show Tryz.prog.globalNamed "internal/strconv.uint64pow10" = some 1 by kernel_rfl]
  simp only [Option.bind_some, h1]
theorem itoa_ok (n : Int) (h0 : -9223372036854775808 ≤ n) (h1 : n ≤ 9223372036854775807) : FnOK Tryz.prog 80 [.int .i64 n] [] (.str (Lib.itoa n)) [] := by
  refine FnOK.of_below rfl fun w G vs hl ha hw => ?_
  obtain ⟨v, rfl⟩ : ∃ v, vs = [v] := by
    match vs, hl with
    | [v], _ => exact ⟨v, rfl⟩
  have hv := ha 0 _ v rfl rfl
  cases hv
  refine (Tryz.strconv_Itoa n h0 h1 w (tab_is hw)).mono ?_
  rintro e w' ⟨rfl, k, os, rfl⟩
  exact ⟨_, rfl, fun G w => .str .., ⟨rfl, rfl, rfl, by simp [Sort.grow], fun j hj => by show (w.heap ++ os)[j]? = _; rw [Array.getElem?_append_left hj]⟩⟩
/-- contracts that ask for no table -/
theorem up {f : FuncId} {args : List AV} {H : Heap} {res : AV} {H' : Heap} (h : @FnOK ⟨fun _ => none⟩ Tryz.prog f args H res H') : FnOK Tryz.prog f args H res H' := FnOK.anyTab (T0 := ⟨fun _ => none⟩) tabM (fun _ => rfl) h
theorem FnOK.conv {f : FuncId} {args : List AV} {H : Heap} {res res' : AV} {H' : Heap} (h : FnOK Tryz.prog f args H res H') (hi : ∀ G w ρ v, VR G w ρ res v → VR G w ρ res' v) (hn : nr res' = true) : FnOK Tryz.prog f args H res' H' := by
  intro w G ρ vs hl ha hb hw
  refine (h w G ρ vs hl ha hb hw).mono ?_
  rintro e w' ⟨v, G', ρ', rfl, t1, t2, t3, t4, t5, t6⟩
  exact ⟨v, G', ρ', rfl, t1, t2, t3, t4, hi _ _ _ _ t5, SpV_nr hn⟩
theorem decD_dig (n : Nat) : Lib.decDigits n = decD n := by
  induction n using Nat.strongRecOn with
  | ind n ih =>
    unfold Lib.decDigits decD
    split
    · rfl
    · rw [ih (n / 10) (by omega)]
theorem decD_itoa (n : Nat) : Lib.itoa (n : Int) = decD n := by
  unfold Lib.itoa
  rw [if_neg (by omega), Int.toNat_natCast, decD_dig]

theorem textT_ok (n : Int) (h0 : -9223372036854775808 ≤ n) (h1 : n ≤ 9223372036854775807) : FnOK Tryz.prog 39 [.int .i64 n] [] (.str (Lib.itoa n)) [] := by
  refine FnOK.of_runs Tryz.func39 rfl (Nat.le_of_ble_eq_true rfl) ?_
  refine Runs.seq ?_
  refine Runs.reg [] [] rfl (by and_intros <;> first | exact True.intro | omega | (intro x hx; cases hx) | (simp only [List.map_nil, List.length_nil]; omega) | skip) ?_
  refine Runs.seq ?_
  refine Runs.reg [(1, { res := .str (Lib.itoa n) })] [0] rfl (by and_intros <;> first | exact True.intro | omega | rfl | exact itoa_ok n h0 h1) ?_
  exact Runs.retH Tryz.func39 rfl rfl (by rfl) (by rfl)

theorem clipH_ok (l : List Hd) : FnOK Tryz.prog 27 [.sl 2 l.length (hdEl l) false] [] (.sl 2 l.length (hdEl l) false) [] := by
  refine FnOK.of_runs Tryz.func27 rfl (Nat.le_of_ble_eq_true rfl) ?_
  refine Runs.seq ?_
  refine Runs.reg [] [] rfl (by and_intros <;> first | exact True.intro | omega | (intro x hx; cases hx) | (simp only [List.map_nil, List.length_nil]; omega) | skip) ?_
  refine Runs.seq ?_
  refine Runs.reg [] [0, 1, 3] rfl (by and_intros <;> first | exact True.intro | omega | rfl | skip) ?_
  exact Runs.retH Tryz.func27 rfl rfl (by simp) (by rfl)

end Go.Proofs.YtdigohaeakclfaaGreatDoor
set_option maxRecDepth 100000
set_option linter.unusedVariables false
set_option linter.unusedSimpArgs false
namespace Go.Proofs.YtdigohaeakclfaaGreatDoor
open Go Go.Am

/-- the values that a signed target bears -/
noncomputable def psV (id : List UInt8) (tm : Int) (ex : Nat) (ns : List (List UInt8)) : List (List UInt8) := [algoN, id ++ [47] ++ dayC tm ++ scopeS, basC tm, decD ex, joinL ns [59]]
def mkC (t : List UInt8) : List UInt8 := if 0 ≤ Lib.indexByte t 63 then [38] else [63]
/-- a target that grows -/
def psT (t : List UInt8) (vs : List (List UInt8)) : Nat → List UInt8
  | 0 => t
  | i + 1 => psT t vs i ++ ((if i = 0 then mkC t else [38]) ++ qNm.getD i [] ++ [61] ++ escL (vs.getD i []) false)
abbrev sigPre : List UInt8 := [38, 88, 45, 65, 109, 122, 45, 83, 105, 103, 110, 97, 116, 117, 114, 101, 61]
noncomputable abbrev psG (t : List UInt8) (hd : List Hd) (k : Hd) (tm : Int) (ex : Nat) : List UInt8 := psT t (psV k.1 tm ex (nmS hd)) 5
/-- what Presign answers -/
noncomputable def preR (m t : List UInt8) (hd : List Hd) (k : Hd) (tm ex : Int) : Sum Int (List UInt8) :=
  if fitB k.1 tm = true then (if ex < 1 ∨ 604800 < ex then .inl 319 else if tkn (queryQ t) qNm = true ∨ tkn hd [authN] = true then .inl 332 else match canonL m (psG t hd k tm ex.toNat) hd (nmS hd) unsP true with
    | none => .inl 331
    | some x => .inr (psG t hd k tm ex.toNat ++ (sigPre ++ sigC k.2 tm x))) else .inl 319
/-- bounds -/
structure PB (m t : List UInt8) (hd : List Hd) (b : List UInt8) (k : Hd) (tm ex : Int) : Prop where
  tot : m.length + t.length + hdW hd + b.length + k.1.length + k.2.length ≤ 1048576
  t0 : -9223372036854775808 ≤ tm
  t1 : tm ≤ 9223372036854775807
  e0 : -9223372036854775808 ≤ ex
  e1 : ex ≤ 9223372036854775807
/-- a request and an error, as they stand in a box -/
abbrev rqZ : AV := .agg [.str [], .str [], .sl 2 0 (fun _ => .bad) false, .bs [] false]
abbrev zqA : List AV := [.str [], .str [], .sl 2 0 (fun _ => .bad) true, .bs [] true]
def preZ (m b : List UInt8) (hd : List Hd) : Sum Int (List UInt8) → AV
  | .inl e => .tup [rqZ, .int .i64 e]
  | .inr t => resA m t hd b 0
def preA (m b : List UInt8) (hd : List Hd) : Sum Int (List UInt8) → AV
  | .inl e => resA [] [] [] [] e
  | .inr t => resA m t hd b 0
theorem zsl {G : Gh} {w : World} {ρ : List Nat} {v : Value} (h : VR G w ρ (.sl 2 0 (fun _ => .bad) false) v) : VR G w ρ (.sl 2 ([] : List Hd).length (hdEl []) false) v := by
  obtain ⟨base, cap, vs, rfl, e1, e2, e3, e4, e5⟩ := h.sl_inv
  exact .sl _ _ _ _ _ base cap vs e1 e2 (fun i h => absurd h (Nat.not_lt_zero _)) (fun b o _ q hq => absurd hq (by simp)) (fun i j c h => absurd h (Nat.not_lt_zero _))
theorem rqZ_conv {G : Gh} {w : World} {ρ : List Nat} {e : Int} {v : Value} (h : VR G w ρ (.tup [rqZ, .int .i64 e]) v) : VR G w ρ (resA [] [] [] [] e) v := by
  obtain ⟨us, rfl, hl, hv⟩ := h.tup_inv
  match us, hl with
  | [x, y], _ =>
    have hx := hv 0 _ x rfl rfl
    have hy := hv 1 _ y rfl rfl
    obtain ⟨cs, rfl, hl2, hc⟩ := hx.agg_inv
    match cs, hl2 with
    | [a, b, c, d], _ =>
      refine .tup _ _ [.agg #[a, b, c, d], y] rfl fun q c' v' e1 e2 => ?_
      match q, e1, e2 with
      | 0, e1, e2 =>
        cases e1; cases e2
        refine .agg _ _ [a, b, c, d] rfl fun q c' v' e1 e2 => ?_
        match q, e1, e2 with
        | 0, e1, e2 => cases e1; cases e2; exact hc 0 _ _ rfl rfl
        | 1, e1, e2 => cases e1; cases e2; exact hc 1 _ _ rfl rfl
        | 2, e1, e2 => cases e1; cases e2; exact zsl (hc 2 _ _ rfl rfl)
        | 3, e1, e2 => cases e1; cases e2; exact hc 3 _ _ rfl rfl
        | q + 4, e1, _ => simp at e1
      | 1, e1, e2 => cases e1; cases e2; exact hy
      | q + 2, e1, _ => simp at e1
theorem pre_conv (m b : List UInt8) (hd : List Hd) (r : Sum Int (List UInt8)) (G : Gh) (w : World) (ρ : List Nat) (v : Value) (h : VR G w ρ (preZ m b hd r) v) : VR G w ρ (preA m b hd r) v := by
  cases r with
  | inl e => exact rqZ_conv h
  | inr t => exact h
theorem pre_nr (m b : List UInt8) (hd : List Hd) (r : Sum Int (List UInt8)) : nr (preA m b hd r) = true := by cases r <;> rfl
theorem copied_ok (m t : List UInt8) (hd : List Hd) (b : List UInt8) (hl : hd.length ≤ 4194304) (hb : b.length ≤ 67108864) : @FnOK ⟨fun _ => none⟩ Tryz.prog 19 [reqA m t hd b] [] (reqA m t hd b) [] := by
  intro w G ρ vs hlen ha hbr hw
  have hρ : ρ = [] := List.eq_nil_of_length_eq_zero (by rw [← hbr.len]; rfl)
  subst hρ
  match vs, hlen with
  | [a0], _ =>
    obtain ⟨hv, bv, rfl, h1, h2⟩ := rq_inv (ha 0 _ a0 rfl rfl).1
    refine (copied_core w h1 h2 hl hb).mono ?_
    rintro e w' ⟨hv', bv', rfl, hr, hf, _, hB⟩
    have g1 := FrH.of_row hr
    have hS : FrSet (fun b' o => rowS hv' (hd.length * 2) b' o ∨ rowS bv' b.length b' o) w w' := by
      rintro b' o (h | h)
      · exact g1.set_ _ _ h
      · have := hf.set_ bV_one
        rw [bV_len] at this
        exact this _ _ h
    refine ⟨_, _, [], rfl, frS_tr hB hw hS, frS_wi hB hw hS, rfl, nil_br, ?_, SpV_nr rfl⟩
    refine .agg _ _ [strV m, strV t, hv', bv'] rfl fun q c v e1 e2 => ?_
    match q, e1, e2 with
    | 0, e1, e2 => cases e1; cases e2; exact .str ..
    | 1, e1, e2 => cases e1; cases e2; exact .str ..
    | 2, e1, e2 => cases e1; cases e2; exact g1.vr fun b' o h => by unfold frS; rw [if_pos (.inl h)]
    | 3, e1, e2 => cases e1; cases e2; exact hf.vr fun b' o h => by unfold frS; rw [if_pos (.inr h)]
    | q + 4, e1, _ => simp at e1
theorem escL_len3 (s : List UInt8) (o : Bool) : (escL s o).length ≤ 3 * s.length := escL_len o s
theorem psV_len (id : List UInt8) (tm : Int) (ex : Nat) (ns : List (List UInt8)) (i : Nat) (hex : ex ≤ 604800) (hid : id.length ≤ 1048576) (hj : (joinL ns [59]).length ≤ 1048576) : ((psV id tm ex ns).getD i []).length ≤ 1048700 := by
  have h1 := dayC_le tm
  have h2 := basC_le tm
  have h3 := dec_len ex (by omega)
  match i with
  | 0 => exact (by decide : ([65, 87, 83, 52, 45, 72, 77, 65, 67, 45, 83, 72, 65, 50, 53, 54] : List UInt8).length ≤ 1048700)
  | 1 => show (id ++ [47] ++ dayC tm ++ scopeS).length ≤ _; simp only [List.length_append, List.length_cons, List.length_nil]; omega
  | 2 => show (basC tm).length ≤ _; omega
  | 3 => show (decD ex).length ≤ _; omega
  | 4 => show (joinL ns [59]).length ≤ _; omega
  | i + 5 => simp [psV]
theorem qNm_le (j : Nat) : (qNm.getD j []).length ≤ 32 := by
  match j with
  | 0 | 1 | 2 | 3 | 4 | 5 => decide
  | j + 6 => simp [qNm]
theorem mk_le (t : List UInt8) (j : Nat) : (if j = 0 then mkC t else [38]).length = 1 := by
  unfold mkC; split <;> (try split) <;> rfl
theorem psT_step (t : List UInt8) (vs : List (List UInt8)) (i : Nat) : (psT t vs (i + 1)).length ≤ (psT t vs i).length + 34 + 3 * (vs.getD i []).length := by
  have h1 := mk_le t i
  have h2 := qNm_le i
  have h3 := escL_len3 (vs.getD i []) false
  show (psT t vs i ++ _).length ≤ _
  simp only [List.length_append, List.length_cons, List.length_nil, h1]
  omega
theorem psT_le (t id : List UInt8) (tm : Int) (ex : Nat) (ns : List (List UInt8)) (hex : ex ≤ 604800) (h : t.length + id.length + (joinL ns [59]).length ≤ 1048576) : ∀ i, i ≤ 5 → (psT t (psV id tm ex ns) i).length ≤ 3200000 := by
  have h1 := dayC_le tm
  have h2 := basC_le tm
  have h3 := dec_len ex (by omega)
  have s0 : (psT t (psV id tm ex ns) 0).length = t.length := rfl
  have s1 : (psT t (psV id tm ex ns) 1).length ≤ (psT t (psV id tm ex ns) 0).length + 34 + 3 * 16 := psT_step t (psV id tm ex ns) 0
  have s2 : (psT t (psV id tm ex ns) 2).length ≤ (psT t (psV id tm ex ns) 1).length + 34 + 3 * (id ++ [47] ++ dayC tm ++ scopeS).length := psT_step t (psV id tm ex ns) 1
  have s3 : (psT t (psV id tm ex ns) 3).length ≤ (psT t (psV id tm ex ns) 2).length + 34 + 3 * (basC tm).length := psT_step t (psV id tm ex ns) 2
  have s4 : (psT t (psV id tm ex ns) 4).length ≤ (psT t (psV id tm ex ns) 3).length + 34 + 3 * (decD ex).length := psT_step t (psV id tm ex ns) 3
  have s5 : (psT t (psV id tm ex ns) 5).length ≤ (psT t (psV id tm ex ns) 4).length + 34 + 3 * (joinL ns [59]).length := psT_step t (psV id tm ex ns) 4
  simp only [List.length_append, List.length_cons, List.length_nil] at s2
  intro i hi
  match i, hi with
  | 0, _ => omega
  | 1, _ => omega
  | 2, _ => omega
  | 3, _ => omega
  | 4, _ => omega
  | 5, _ => omega
  | i + 6, hi => omega
theorem itoa_nat {ex : Int} (h : 1 ≤ ex) : Lib.itoa ex = decD ex.toNat := by
  have e : ex = ((ex.toNat : Nat) : Int) := by omega
  conv => lhs; rw [e]
  exact decD_itoa _
section
variable {m t : List UInt8} {hd : List Hd} {b : List UInt8} {k : Hd} {tm ex : Int}
theorem PB.bd (h : PB m t hd b k tm ex) (h1 : 1 ≤ ex) (h2 : ex ≤ 604800) : Bd m (psG t hd k tm ex.toNat) hd (nmS hd) unsP := by
  have hb := h.tot
  have hw := nmS_W hd
  have hj := nmS_join hd 59
  have hp := psT_le t k.1 tm ex.toNat (nmS hd) (by omega) (by omega) 5 (by omega)
  exact Bd.of (by show (psT t (psV k.1 tm ex.toNat (nmS hd)) 5).length ≤ _; omega) (by show _ + _ + _ + 16 ≤ _; omega)
theorem PB.txt (h : PB m t hd b k tm ex) (h1 : 1 ≤ ex) (h2 : ex ≤ 604800) {x : List UInt8} (hx : canonL m (psG t hd k tm ex.toNat) hd (nmS hd) unsP true = some x) : x.length ≤ 67108864 := by
  have h1 := canon_len (nmS_nodup _) hx
  have hb := h.tot
  have hw := nmS_W hd
  have hj := nmS_join hd 59
  have hp := psT_le t k.1 tm ex.toNat (nmS hd) (by omega) (by omega) 5 (by omega)
  have hu : unsP.length = 16 := rfl
  rw [hu] at h1
  have hp' : (psG t hd k tm ex.toNat).length ≤ 3200000 := hp
  omega
theorem preR_f (h : fitB k.1 tm = false) : preR m t hd k tm ex = .inl 319 := if_neg (by rw [h]; exact Bool.false_ne_true)
theorem preR_e (h : fitB k.1 tm = true) (h2 : ex < 1 ∨ 604800 < ex) : preR m t hd k tm ex = .inl 319 := by unfold preR; rw [if_pos h, if_pos h2]
theorem preR_t (h : fitB k.1 tm = true) (h2 : ¬ (ex < 1 ∨ 604800 < ex)) (h3 : tkn (queryQ t) qNm = true ∨ tkn hd [authN] = true) : preR m t hd k tm ex = .inl 332 := by unfold preR; rw [if_pos h, if_neg h2, if_pos h3]
theorem preR_n (h : fitB k.1 tm = true) (h2 : ¬ (ex < 1 ∨ 604800 < ex)) (h3 : tkn (queryQ t) qNm = false) (h4 : tkn hd [authN] = false) (hx : canonL m (psG t hd k tm ex.toNat) hd (nmS hd) unsP true = none) : preR m t hd k tm ex = .inl 331 := by unfold preR; rw [if_pos h, if_neg h2, if_neg (by rw [h3, h4]; simp), hx]
theorem preR_s {x : List UInt8} (h : fitB k.1 tm = true) (h2 : ¬ (ex < 1 ∨ 604800 < ex)) (h3 : tkn (queryQ t) qNm = false) (h4 : tkn hd [authN] = false) (hx : canonL m (psG t hd k tm ex.toNat) hd (nmS hd) unsP true = some x) : preR m t hd k tm ex = .inr (psG t hd k tm ex.toNat ++ (sigPre ++ sigC k.2 tm x)) := by unfold preR; rw [if_pos h, if_neg h2, if_neg (by rw [h3, h4]; simp), hx]
end

set_option maxHeartbeats 2000000 in
theorem pre_f (m t : List UInt8) (hd : List Hd) (b : List UInt8) (k : Hd) (tm ex : Int) (B : PB m t hd b k tm ex) (hf : fitB k.1 tm = false) : FnOK Tryz.prog 8 [reqA m t hd b, .agg [.str k.1, .str k.2], .int .i64 tm, .int .i64 ex] [] (preZ m b hd (preR m t hd k tm ex)) [] := by
  refine FnOK.of_runs Tryz.func8 rfl (Nat.le_of_ble_eq_true rfl) ?_
  refine Runs.seq ?_
  refine Runs.reg [] [] rfl (by and_intros <;> first | exact True.intro | omega | (intro x hx; cases hx) | (simp only [List.map_nil, List.length_nil]; omega) | skip) ?_
  refine Runs.seq ?_
  refine Runs.seq ?_
  have hd8 := dayC_le tm; have hb16 := basC_le tm; have hj59 := nmS_join hd 59; have hnw := nmS_W hd; have hnl := nmS_len hd; have hB0 := B.tot; have hB1 := B.t0; have hB2 := B.t1; have hB3 := B.e0; have hB4 := B.e1; have hll := hdW_len' hd
  refine Runs.reg [(3, { res := .int .i64 319 })] [2] rfl (by and_intros <;> first | exact True.intro | omega | rfl | exact Nat.le_of_ble_eq_true rfl | (refine up ?_; have h := begin_ok m t hd b k.1 k.2 tm (by omega) hB1 hB2; rwa [if_neg (by rw [hf]; exact Bool.false_ne_true)] at h)) ?_
  refine Runs.seq ?_
  refine Runs.reg [(1, { res := .bool true })] [0] rfl (by and_intros <;> first | exact True.intro | omega | rfl | exact Nat.le_of_ble_eq_true rfl | (refine congrArg AV.bool ?_; decide)) ?_
  refine Runs.condT rfl ?_
  refine Runs.seq ?_
  refine Runs.reg [] [1] rfl (by and_intros <;> first | exact True.intro | omega | rfl | exact Nat.le_of_ble_eq_true rfl | skip) ?_
  exact Runs.retD Tryz.func8 rfl rfl rfl (by rw [preR_f hf]; rfl) (by rfl) rfl

set_option maxHeartbeats 4000000 in
theorem pre_t (m t : List UInt8) (hd : List Hd) (b : List UInt8) (k : Hd) (tm ex : Int) (B : PB m t hd b k tm ex) (hf : fitB k.1 tm = true) : FnOK Tryz.prog 8 [reqA m t hd b, .agg [.str k.1, .str k.2], .int .i64 tm, .int .i64 ex] [] (preZ m b hd (preR m t hd k tm ex)) [] := by
  refine FnOK.of_runs Tryz.func8 rfl (Nat.le_of_ble_eq_true rfl) ?_
  refine Runs.seq ?_
  refine Runs.reg [] [] rfl (by and_intros <;> first | exact True.intro | omega | (intro x hx; cases hx) | (simp only [List.map_nil, List.length_nil]; omega) | skip) ?_
  refine Runs.seq ?_
  refine Runs.seq ?_
  have hd8 := dayC_le tm; have hb16 := basC_le tm; have hj59 := nmS_join hd 59; have hnw := nmS_W hd; have hnl := nmS_len hd; have hB0 := B.tot; have hB1 := B.t0; have hB2 := B.t1; have hB3 := B.e0; have hB4 := B.e1; have hll := hdW_len' hd
  refine Runs.reg [(3, { res := .int .i64 0 })] [2] rfl (by and_intros <;> first | exact True.intro | omega | rfl | exact Nat.le_of_ble_eq_true rfl | (refine up ?_; have h := begin_ok m t hd b k.1 k.2 tm (by omega) hB1 hB2; rwa [if_pos hf] at h)) ?_
  refine Runs.seq ?_
  refine Runs.reg [(1, { res := .bool false })] [0] rfl (by and_intros <;> first | exact True.intro | omega | rfl | exact Nat.le_of_ble_eq_true rfl | (refine congrArg AV.bool ?_; decide)) ?_
  refine Runs.condF rfl ?_
  refine Runs.skip ?_
  refine Runs.seq ?_
  refine Runs.seq ?_
  refine Runs.region ?_
  refine Runs.restTo 3 [] [0, 3] rfl (by and_intros <;> first | exact True.intro | omega | rfl | exact Nat.le_of_ble_eq_true rfl | skip) ?_
  refine Runs.splitS 32 rfl (fun g32 => ?_) (fun g32 => ?_)
  · try simp only [decide_eq_true_eq, decide_eq_false_iff_not, notT, notF, beq_iff_eq, beq_eq_false_iff_ne, bne_iff_ne, bne_eq_false_iff_eq, tmodN, tdivN, Int.not_lt, Int.not_le] at g32
    refine Runs.rest [] [0, 3] rfl (by and_intros <;> first | exact True.intro | omega | rfl | exact Nat.le_of_ble_eq_true rfl | skip) ?_
    refine Runs.condT rfl ?_
    refine Runs.seq ?_
    refine Runs.reg [] [] rfl (by and_intros <;> first | exact True.intro | omega | rfl | exact Nat.le_of_ble_eq_true rfl | skip) ?_
    exact Runs.retD Tryz.func8 rfl rfl rfl (by rw [preR_e hf (by omega)]; rfl) (by rfl) rfl
  · try simp only [decide_eq_true_eq, decide_eq_false_iff_not, notT, notF, beq_iff_eq, beq_eq_false_iff_ne, bne_iff_ne, bne_eq_false_iff_eq, tmodN, tdivN, Int.not_lt, Int.not_le] at g32
    refine Runs.rest [] [0, 3] rfl (by and_intros <;> first | exact True.intro | omega | rfl | exact Nat.le_of_ble_eq_true rfl | skip) ?_
    refine Runs.condS rfl (fun g35 => ?_) (fun g35 => ?_)
    · try simp only [decide_eq_true_eq, decide_eq_false_iff_not, notT, notF, beq_iff_eq, beq_eq_false_iff_ne, bne_iff_ne, bne_eq_false_iff_eq, tmodN, tdivN, Int.not_lt, Int.not_le] at g35
      refine Runs.seq ?_
      refine Runs.reg [] [] rfl (by and_intros <;> first | exact True.intro | omega | rfl | exact Nat.le_of_ble_eq_true rfl | skip) ?_
      exact Runs.retD Tryz.func8 rfl rfl rfl (by rw [preR_e hf (by omega)]; rfl) (by rfl) rfl
    · try simp only [decide_eq_true_eq, decide_eq_false_iff_not, notT, notF, beq_iff_eq, beq_eq_false_iff_ne, bne_iff_ne, bne_eq_false_iff_eq, tmodN, tdivN, Int.not_lt, Int.not_le] at g35
      refine Runs.skip ?_
      refine Runs.seq ?_
      refine Runs.reg [(2, { res := .tup [.str (queryP t), .sl 2 (queryQ t).length (hdEl (queryQ t)) false] })] [] rfl (by and_intros <;> first | exact True.intro | omega | rfl | exact Nat.le_of_ble_eq_true rfl | exact up (query_ok t (by omega))) ?_
      refine Runs.seq ?_
      refine Runs.seq ?_
      refine Runs.reg [(0, { res := nmA })] [] rfl (by and_intros <;> first | exact True.intro | omega | rfl | exact Nat.le_of_ble_eq_true rfl | exact up names_ok) ?_
      refine Runs.block ?_
      -- loop 0
      refine Runs.loopF (σ := Nat) (fun i => i ≤ 6 ∧ ∀ j, j < i → allL (queryQ t) (qNm.getD j []) = []) (fun i => [(2, .int .i64 tm), (3, .int .i64 ex), (4, .ptr 0 0), (5, .ptr 1 0), (8, .ptr 2 0), (12, .sl 2 (queryQ t).length (hdEl (queryQ t)) false), (43, nmA), (44, .int .i64 i)]) (fun _ => [[.str m, .str t, .sl 2 hd.length (hdEl hd) false, .bs b false], [.str k.1, .str k.2], zqA]) (fun i => 6 - i) (0) (by exact ⟨Nat.zero_le _, fun j h => absurd h (Nat.not_lt_zero _)⟩) (by exact agree_cons rfl (by first | with_reducible rfl | (refine congrArg (AV.int _) ?_; (try simp only [wrap_i64', wrap_u8, wrap_u16, wrap_u32, wrap_u64, wrap_i32, List.length_cons, List.length_nil, List.length_append, List.length_map, tmodN, tdivN]); omega) | rfl | skip) (agree_cons rfl (by first | with_reducible rfl | (refine congrArg (AV.int _) ?_; (try simp only [wrap_i64', wrap_u8, wrap_u16, wrap_u32, wrap_u64, wrap_i32, List.length_cons, List.length_nil, List.length_append, List.length_map, tmodN, tdivN]); omega) | rfl | skip) (agree_cons rfl (by first | with_reducible rfl | (refine congrArg (AV.int _) ?_; (try simp only [wrap_i64', wrap_u8, wrap_u16, wrap_u32, wrap_u64, wrap_i32, List.length_cons, List.length_nil, List.length_append, List.length_map, tmodN, tdivN]); omega) | rfl | skip) (agree_cons rfl (by first | with_reducible rfl | (refine congrArg (AV.int _) ?_; (try simp only [wrap_i64', wrap_u8, wrap_u16, wrap_u32, wrap_u64, wrap_i32, List.length_cons, List.length_nil, List.length_append, List.length_map, tmodN, tdivN]); omega) | rfl | skip) (agree_cons rfl (by first | with_reducible rfl | (refine congrArg (AV.int _) ?_; (try simp only [wrap_i64', wrap_u8, wrap_u16, wrap_u32, wrap_u64, wrap_i32, List.length_cons, List.length_nil, List.length_append, List.length_map, tmodN, tdivN]); omega) | rfl | skip) (agree_cons rfl (by first | with_reducible rfl | (refine congrArg (AV.int _) ?_; (try simp only [wrap_i64', wrap_u8, wrap_u16, wrap_u32, wrap_u64, wrap_i32, List.length_cons, List.length_nil, List.length_append, List.length_map, tmodN, tdivN]); omega) | rfl | skip) (agree_cons rfl (by first | with_reducible rfl | (refine congrArg (AV.int _) ?_; (try simp only [wrap_i64', wrap_u8, wrap_u16, wrap_u32, wrap_u64, wrap_i32, List.length_cons, List.length_nil, List.length_append, List.length_map, tmodN, tdivN]); omega) | rfl | skip) (agree_cons rfl (by first | with_reducible rfl | (refine congrArg (AV.int _) ?_; (try simp only [wrap_i64', wrap_u8, wrap_u16, wrap_u32, wrap_u64, wrap_i32, List.length_cons, List.length_nil, List.length_append, List.length_map, tmodN, tdivN]); omega) | rfl | skip) (trivial))))))))) (by rfl) (fun i hi ih => ?_)
      replace hi : i ≤ 6 ∧ ∀ j, j < i → allL (queryQ t) (qNm.getD j []) = [] := hi; have hi1 := hi.1
      refine Runs.seq ?_
      refine Runs.reg [] [] rfl (by and_intros <;> first | exact True.intro | omega | rfl | exact Nat.le_of_ble_eq_true rfl | skip) ?_
      refine Runs.seq ?_
      refine Runs.condS rfl (fun g45 => ?_) (fun g45 => ?_)
      · try simp only [decide_eq_true_eq, decide_eq_false_iff_not, notT, notF, beq_iff_eq, beq_eq_false_iff_ne, bne_iff_ne, bne_eq_false_iff_eq, tmodN, tdivN, Int.not_lt, Int.not_le] at g45
        refine Runs.skip ?_
        refine Runs.seq ?_
        refine Runs.block ?_
        refine Runs.seq ?_
        refine Runs.reg [(0, { res := .str (qNm.getD i []) })] [] rfl (by and_intros <;> first | exact True.intro | omega | rfl | exact Nat.le_of_ble_eq_true rfl | (have h6 : i = 0 ∨ i = 1 ∨ i = 2 ∨ i = 3 ∨ i = 4 ∨ i = 5 := (by omega); rcases h6 with rfl | rfl | rfl | rfl | rfl | rfl <;> rfl)) ?_
        refine Runs.seq ?_
        refine Runs.reg [(2, { res := .sl 1 (allL (queryQ t) (qNm.getD i [])).length (strEl (allL (queryQ t) (qNm.getD i []))) false })] [0, 1] rfl (by and_intros <;> first | exact True.intro | omega | rfl | exact Nat.le_of_ble_eq_true rfl | exact up (all_ok _ _ (by have := queryQ_len t; omega))) ?_
        refine Runs.condS rfl (fun g51 => ?_) (fun g51 => ?_)
        · try simp only [decide_eq_true_eq, decide_eq_false_iff_not, notT, notF, beq_iff_eq, beq_eq_false_iff_ne, bne_iff_ne, bne_eq_false_iff_eq, tmodN, tdivN, Int.not_lt, Int.not_le] at g51
          refine Runs.seq ?_
          refine Runs.reg [] [] rfl (by and_intros <;> first | exact True.intro | omega | rfl | exact Nat.le_of_ble_eq_true rfl | skip) ?_
          exact Runs.retD Tryz.func8 rfl rfl rfl (by rw [preR_t hf (by omega) (.inl (tkn_hit (show i < qNm.length from by show i < 6; omega) (by intro h; rw [h] at g51; simp at g51)))]; rfl) (by rfl) rfl
        · try simp only [decide_eq_true_eq, decide_eq_false_iff_not, notT, notF, beq_iff_eq, beq_eq_false_iff_ne, bne_iff_ne, bne_eq_false_iff_eq, tmodN, tdivN, Int.not_lt, Int.not_le] at g51
          refine Runs.skip ?_
          refine Runs.inBlock ?_
          refine Runs.reg [] [] rfl (by and_intros <;> first | exact True.intro | omega | rfl | exact Nat.le_of_ble_eq_true rfl | skip) ?_
          exact ih (i + 1) _ _ (by exact ⟨by omega, fun j hj => by rcases Nat.lt_or_ge j i with h | h; exact hi.2 j h; (rw [show j = i by omega]; exact List.eq_nil_of_length_eq_zero (by omega))⟩) (by omega) (by exact agree_cons rfl (by first | with_reducible rfl | (refine congrArg (AV.int _) ?_; (try simp only [wrap_i64', wrap_u8, wrap_u16, wrap_u32, wrap_u64, wrap_i32, List.length_cons, List.length_nil, List.length_append, List.length_map, tmodN, tdivN]); omega) | rfl | skip) (agree_cons rfl (by first | with_reducible rfl | (refine congrArg (AV.int _) ?_; (try simp only [wrap_i64', wrap_u8, wrap_u16, wrap_u32, wrap_u64, wrap_i32, List.length_cons, List.length_nil, List.length_append, List.length_map, tmodN, tdivN]); omega) | rfl | skip) (agree_cons rfl (by first | with_reducible rfl | (refine congrArg (AV.int _) ?_; (try simp only [wrap_i64', wrap_u8, wrap_u16, wrap_u32, wrap_u64, wrap_i32, List.length_cons, List.length_nil, List.length_append, List.length_map, tmodN, tdivN]); omega) | rfl | skip) (agree_cons rfl (by first | with_reducible rfl | (refine congrArg (AV.int _) ?_; (try simp only [wrap_i64', wrap_u8, wrap_u16, wrap_u32, wrap_u64, wrap_i32, List.length_cons, List.length_nil, List.length_append, List.length_map, tmodN, tdivN]); omega) | rfl | skip) (agree_cons rfl (by first | with_reducible rfl | (refine congrArg (AV.int _) ?_; (try simp only [wrap_i64', wrap_u8, wrap_u16, wrap_u32, wrap_u64, wrap_i32, List.length_cons, List.length_nil, List.length_append, List.length_map, tmodN, tdivN]); omega) | rfl | skip) (agree_cons rfl (by first | with_reducible rfl | (refine congrArg (AV.int _) ?_; (try simp only [wrap_i64', wrap_u8, wrap_u16, wrap_u32, wrap_u64, wrap_i32, List.length_cons, List.length_nil, List.length_append, List.length_map, tmodN, tdivN]); omega) | rfl | skip) (agree_cons rfl (by first | with_reducible rfl | (refine congrArg (AV.int _) ?_; (try simp only [wrap_i64', wrap_u8, wrap_u16, wrap_u32, wrap_u64, wrap_i32, List.length_cons, List.length_nil, List.length_append, List.length_map, tmodN, tdivN]); omega) | rfl | skip) (agree_cons rfl (by first | with_reducible rfl | (refine congrArg (AV.int _) ?_; (try simp only [wrap_i64', wrap_u8, wrap_u16, wrap_u32, wrap_u64, wrap_i32, List.length_cons, List.length_nil, List.length_append, List.length_map, tmodN, tdivN]); omega) | rfl | skip) (trivial))))))))) (by rfl)
      · try simp only [decide_eq_true_eq, decide_eq_false_iff_not, notT, notF, beq_iff_eq, beq_eq_false_iff_ne, bne_iff_ne, bne_eq_false_iff_eq, tmodN, tdivN, Int.not_lt, Int.not_le] at g45
        refine Runs.exit rfl ?_
        refine Runs.seq ?_
        refine Runs.seq ?_
        have hq6 : tkn (queryQ t) qNm = false := tkn_none (fun j hj => hi.2 j (by have : j < 6 := hj; omega))
        refine Runs.region ?_
        refine Runs.restTo 2 [(2, { res := .bool (tkn hd [authN]) })] [] rfl (by and_intros <;> first | exact True.intro | omega | rfl | exact Nat.le_of_ble_eq_true rfl | exact up (taken_ok m t hd b [authN] (by omega) (by decide))) ?_
        refine Runs.conv 55 (a := .sl 1 1 (strEl [authN]) true) (by exact Imp.slEq rfl (fun i hi => match i, hi with | 0, _ => rfl | i + 1, hi => absurd hi (by omega))) (.inr (by intro vs h; cases h)) (by intro vs h; cases h) ?_
        refine Runs.rest [(2, { res := .bool (tkn hd [authN]) })] [] rfl (by and_intros <;> first | exact True.intro | omega | rfl | exact Nat.le_of_ble_eq_true rfl | exact up (taken_ok m t hd b [authN] (by omega) (by decide))) ?_
        refine Runs.condS rfl (fun g56 => ?_) (fun g56 => ?_)
        · try simp only [decide_eq_true_eq, decide_eq_false_iff_not, notT, notF, beq_iff_eq, beq_eq_false_iff_ne, bne_iff_ne, bne_eq_false_iff_eq, tmodN, tdivN, Int.not_lt, Int.not_le] at g56
          refine Runs.seq ?_
          refine Runs.reg [] [] rfl (by and_intros <;> first | exact True.intro | omega | rfl | exact Nat.le_of_ble_eq_true rfl | skip) ?_
          exact Runs.retD Tryz.func8 rfl rfl rfl (by rw [preR_t hf (by omega) (.inr (by assumption))]; rfl) (by rfl) rfl
        · try simp only [decide_eq_true_eq, decide_eq_false_iff_not, notT, notF, beq_iff_eq, beq_eq_false_iff_ne, bne_iff_ne, bne_eq_false_iff_eq, tmodN, tdivN, Int.not_lt, Int.not_le] at g56
          refine Runs.skip ?_
          refine Runs.seq ?_
          refine Runs.reg [(1, { res := reqA m t hd b })] [] rfl (by and_intros <;> first | exact True.intro | omega | rfl | exact Nat.le_of_ble_eq_true rfl | exact up (copied_ok m t hd b (by omega) (by omega))) ?_
          refine Runs.seq ?_
          refine Runs.reg [(2, { res := .sl 2 hd.length (hdEl hd) false })] [] rfl (by and_intros <;> first | exact True.intro | omega | rfl | exact Nat.le_of_ble_eq_true rfl | exact clipH_ok hd) ?_
          refine Runs.seq ?_
          refine Runs.reg [(1, { res := .str (dayC tm) })] [0] rfl (by and_intros <;> first | exact True.intro | omega | rfl | exact Nat.le_of_ble_eq_true rfl | exact up (day_all tm hB1 hB2)) ?_
          refine Runs.seq ?_
          refine Runs.reg [(1, { res := .sl 1 (nmS hd).length (strEl (nmS hd)) false })] [] rfl (by and_intros <;> first | exact True.intro | omega | rfl | exact Nat.le_of_ble_eq_true rfl | exact up (allN_ok hd _ _ _ (by omega))) ?_
          refine Runs.seq ?_
          refine Runs.reg [] [] rfl (by and_intros <;> first | exact True.intro | omega | rfl | exact Nat.le_of_ble_eq_true rfl | skip) ?_
          refine Runs.seq ?_
          refine Runs.seq ?_
          refine Runs.reg [(2, { res := .bool (decide (0 ≤ Lib.indexByte t 63)) })] [] rfl (by and_intros <;> first | exact True.intro | omega | rfl | exact Nat.le_of_ble_eq_true rfl | exact up (cont_ok t 63)) ?_
          refine Runs.meet (σ := List UInt8) (fun mk => mk = mkC t) (fun mk => [(2, .int .i64 tm), (3, .int .i64 ex), (4, .ptr 0 0), (5, .ptr 1 0), (8, .ptr 2 0), (15, .str (dayC tm)), (16, .sl 1 (nmS hd).length (strEl (nmS hd)) false), (17, .str mk)]) (fun _ => [[.str m, .str t, .sl 2 hd.length (hdEl hd) false, .bs b false], [.str k.1, .str k.2], zqA]) (fun mk hmk => ?_) (fun meet_J => Runs.condS rfl (fun g70 => ?_) (fun g70 => ?_))
          · skip
            refine Runs.seq ?_
            refine Runs.seq ?_
            refine Runs.regD [(7, { res := .str (basC tm) }), (9, { res := .str (decD ex.toNat) }), (11, { res := .str (joinL (nmS hd) [59]) })] [3, 6, 8, 10] rfl rfl rfl (by and_intros <;> first | exact True.intro | omega | rfl | exact Nat.le_of_ble_eq_true rfl | exact up (basic_all tm hB1 hB2) | (have h := textT_ok ex hB3 hB4; rw [itoa_nat (show 1 ≤ ex by omega)] at h; exact h) | exact up (join_ok (nmS hd) [59] (by have := nmS_len hd; have := nmS_W hd; omega) (by have := nmS_join hd 59; omega)) | (simp only [List.length_append, List.length_cons, List.length_nil, mk_le]; omega) | skip) ?_
            refine Runs.block ?_
            -- loop 1
            refine Runs.loopF (σ := Nat) (fun j => j ≤ 5) (fun j => [(2, .int .i64 tm), (4, .ptr 0 0), (5, .ptr 1 0), (8, .ptr 2 0), (15, .str (dayC tm)), (16, .sl 1 (nmS hd).length (strEl (nmS hd)) false), (17, .str (if j = 0 then mkC t else [38])), (83, .agg ((psV k.1 tm ex.toNat (nmS hd)).map AV.str)), (84, .int .i64 j)]) (fun j => [[.str m, .str (psT t (psV k.1 tm ex.toNat (nmS hd)) j), .sl 2 hd.length (hdEl hd) false, .bs b false], [.str k.1, .str k.2], zqA]) (fun j => 5 - j) (0) (by exact Nat.zero_le _) (by exact agree_cons rfl (by first | with_reducible rfl | (refine congrArg (AV.int _) ?_; (try simp only [wrap_i64', wrap_u8, wrap_u16, wrap_u32, wrap_u64, wrap_i32, List.length_cons, List.length_nil, List.length_append, List.length_map, tmodN, tdivN]); omega) | rfl | skip) (agree_cons rfl (by first | with_reducible rfl | (refine congrArg (AV.int _) ?_; (try simp only [wrap_i64', wrap_u8, wrap_u16, wrap_u32, wrap_u64, wrap_i32, List.length_cons, List.length_nil, List.length_append, List.length_map, tmodN, tdivN]); omega) | rfl | skip) (agree_cons rfl (by first | with_reducible rfl | (refine congrArg (AV.int _) ?_; (try simp only [wrap_i64', wrap_u8, wrap_u16, wrap_u32, wrap_u64, wrap_i32, List.length_cons, List.length_nil, List.length_append, List.length_map, tmodN, tdivN]); omega) | rfl | skip) (agree_cons rfl (by first | with_reducible rfl | (refine congrArg (AV.int _) ?_; (try simp only [wrap_i64', wrap_u8, wrap_u16, wrap_u32, wrap_u64, wrap_i32, List.length_cons, List.length_nil, List.length_append, List.length_map, tmodN, tdivN]); omega) | rfl | skip) (agree_cons rfl (by first | with_reducible rfl | (refine congrArg (AV.int _) ?_; (try simp only [wrap_i64', wrap_u8, wrap_u16, wrap_u32, wrap_u64, wrap_i32, List.length_cons, List.length_nil, List.length_append, List.length_map, tmodN, tdivN]); omega) | rfl | skip) (agree_cons rfl (by first | with_reducible rfl | (refine congrArg (AV.int _) ?_; (try simp only [wrap_i64', wrap_u8, wrap_u16, wrap_u32, wrap_u64, wrap_i32, List.length_cons, List.length_nil, List.length_append, List.length_map, tmodN, tdivN]); omega) | rfl | skip) (agree_cons rfl (by first | exact congrArg AV.str hmk.symm | exact congrArg AV.str hmk | rfl) (agree_cons rfl (by first | with_reducible rfl | (refine congrArg (AV.int _) ?_; (try simp only [wrap_i64', wrap_u8, wrap_u16, wrap_u32, wrap_u64, wrap_i32, List.length_cons, List.length_nil, List.length_append, List.length_map, tmodN, tdivN]); omega) | rfl | skip) (agree_cons rfl (by first | with_reducible rfl | (refine congrArg (AV.int _) ?_; (try simp only [wrap_i64', wrap_u8, wrap_u16, wrap_u32, wrap_u64, wrap_i32, List.length_cons, List.length_nil, List.length_append, List.length_map, tmodN, tdivN]); omega) | rfl | skip) (trivial)))))))))) (by rfl) (fun j hj jh => ?_)
            replace hj : j ≤ 5 := hj
            refine Runs.seq ?_
            refine Runs.reg [] [] rfl (by and_intros <;> first | exact True.intro | omega | rfl | exact Nat.le_of_ble_eq_true rfl | skip) ?_
            refine Runs.seq ?_
            refine Runs.condS rfl (fun g85 => ?_) (fun g85 => ?_)
            · try simp only [decide_eq_true_eq, decide_eq_false_iff_not, notT, notF, beq_iff_eq, beq_eq_false_iff_ne, bne_iff_ne, bne_eq_false_iff_eq, tmodN, tdivN, Int.not_lt, Int.not_le] at g85
              refine Runs.skip ?_
              refine Runs.seq ?_
              refine Runs.block ?_
              refine Runs.seq ?_
              refine Runs.reg [(1, { res := .str ((psV k.1 tm ex.toNat (nmS hd)).getD j []) })] [0] rfl (by and_intros <;> first | exact True.intro | omega | rfl | exact Nat.le_of_ble_eq_true rfl | (have h5 : j = 0 ∨ j = 1 ∨ j = 2 ∨ j = 3 ∨ j = 4 := (by omega); rcases h5 with rfl | rfl | rfl | rfl | rfl <;> rfl)) ?_
              refine Runs.seq ?_
              have hpt := psT_le t k.1 tm ex.toNat (nmS hd) (by omega) (by omega) j (by omega); have hev := escL_len3 ((psV k.1 tm ex.toNat (nmS hd)).getD j []) false; have hvl := psV_len k.1 tm ex.toNat (nmS hd) j (by omega) (by omega) (by omega); have hqn := qNm_le j
              refine Runs.regD [(3, { res := nmA }), (5, { res := .str (qNm.getD j []) }), (9, { res := .str (escL ((psV k.1 tm ex.toNat (nmS hd)).getD j []) false) })] [2, 4, 8] rfl rfl rfl (by and_intros <;> first | exact True.intro | omega | rfl | exact Nat.le_of_ble_eq_true rfl | exact up names_ok | (have h5 : j = 0 ∨ j = 1 ∨ j = 2 ∨ j = 3 ∨ j = 4 := (by omega); rcases h5 with rfl | rfl | rfl | rfl | rfl <;> rfl) | exact up (cescF _ false (by have := psV_len k.1 tm ex.toNat (nmS hd) j (by omega) (by omega) (by have := nmS_join hd 59; omega); omega)) | (simp only [List.length_append, List.length_cons, List.length_nil, mk_le]; omega) | skip) ?_
              refine Runs.reg [] [] rfl (by and_intros <;> first | exact True.intro | omega | rfl | exact Nat.le_of_ble_eq_true rfl | skip) ?_
              refine Runs.inBlock ?_
              refine Runs.reg [] [] rfl (by and_intros <;> first | exact True.intro | omega | rfl | exact Nat.le_of_ble_eq_true rfl | skip) ?_
              exact jh (j + 1) _ _ (by show j + 1 ≤ 5; omega) (by omega) (by exact agree_cons rfl (by first | with_reducible rfl | (refine congrArg (AV.int _) ?_; (try simp only [wrap_i64', wrap_u8, wrap_u16, wrap_u32, wrap_u64, wrap_i32, List.length_cons, List.length_nil, List.length_append, List.length_map, tmodN, tdivN]); omega) | rfl | skip) (agree_cons rfl (by first | with_reducible rfl | (refine congrArg (AV.int _) ?_; (try simp only [wrap_i64', wrap_u8, wrap_u16, wrap_u32, wrap_u64, wrap_i32, List.length_cons, List.length_nil, List.length_append, List.length_map, tmodN, tdivN]); omega) | rfl | skip) (agree_cons rfl (by first | with_reducible rfl | (refine congrArg (AV.int _) ?_; (try simp only [wrap_i64', wrap_u8, wrap_u16, wrap_u32, wrap_u64, wrap_i32, List.length_cons, List.length_nil, List.length_append, List.length_map, tmodN, tdivN]); omega) | rfl | skip) (agree_cons rfl (by first | with_reducible rfl | (refine congrArg (AV.int _) ?_; (try simp only [wrap_i64', wrap_u8, wrap_u16, wrap_u32, wrap_u64, wrap_i32, List.length_cons, List.length_nil, List.length_append, List.length_map, tmodN, tdivN]); omega) | rfl | skip) (agree_cons rfl (by first | with_reducible rfl | (refine congrArg (AV.int _) ?_; (try simp only [wrap_i64', wrap_u8, wrap_u16, wrap_u32, wrap_u64, wrap_i32, List.length_cons, List.length_nil, List.length_append, List.length_map, tmodN, tdivN]); omega) | rfl | skip) (agree_cons rfl (by first | with_reducible rfl | (refine congrArg (AV.int _) ?_; (try simp only [wrap_i64', wrap_u8, wrap_u16, wrap_u32, wrap_u64, wrap_i32, List.length_cons, List.length_nil, List.length_append, List.length_map, tmodN, tdivN]); omega) | rfl | skip) (agree_cons rfl (by rw [if_neg (Nat.succ_ne_zero j)]) (agree_cons rfl (by first | with_reducible rfl | (refine congrArg (AV.int _) ?_; (try simp only [wrap_i64', wrap_u8, wrap_u16, wrap_u32, wrap_u64, wrap_i32, List.length_cons, List.length_nil, List.length_append, List.length_map, tmodN, tdivN]); omega) | rfl | skip) (agree_cons rfl (by first | with_reducible rfl | (refine congrArg (AV.int _) ?_; (try simp only [wrap_i64', wrap_u8, wrap_u16, wrap_u32, wrap_u64, wrap_i32, List.length_cons, List.length_nil, List.length_append, List.length_map, tmodN, tdivN]); omega) | rfl | skip) (trivial)))))))))) (by rfl)
            · try simp only [decide_eq_true_eq, decide_eq_false_iff_not, notT, notF, beq_iff_eq, beq_eq_false_iff_ne, bne_iff_ne, bne_eq_false_iff_eq, tmodN, tdivN, Int.not_lt, Int.not_le] at g85
              refine Runs.exit rfl ?_
              refine Runs.seq ?_
              rcases hx : canonL m (psG t hd k tm ex.toNat) hd (nmS hd) unsP true with _ | x
              · skip
                obtain rfl : j = 5 := by omega
                refine Runs.reg [(2, { res := .tup [.str [], .int .i64 331] })] [1] rfl (by and_intros <;> first | exact True.intro | omega | rfl | exact Nat.le_of_ble_eq_true rfl | (refine up ?_; have h := ccanon_ok m (psG t hd k tm ex.toNat) hd b (nmS hd) unsP true false (B.bd (by omega) (by omega)); rw [hx] at h; exact h) | skip) ?_
                refine Runs.seq ?_
                refine Runs.seq ?_
                refine Runs.reg [(1, { res := .bool true })] [0] rfl (by and_intros <;> first | exact True.intro | omega | rfl | exact Nat.le_of_ble_eq_true rfl | (refine congrArg AV.bool ?_; decide)) ?_
                refine Runs.condT rfl ?_
                refine Runs.seq ?_
                refine Runs.reg [] [1] rfl (by and_intros <;> first | exact True.intro | omega | rfl | exact Nat.le_of_ble_eq_true rfl | skip) ?_
                exact Runs.retD Tryz.func8 rfl rfl rfl (by rw [preR_n hf (by omega) hq6 (by simp_all) hx]; rfl) (by rfl) rfl
              · skip
                obtain rfl : j = 5 := by omega
                refine Runs.reg [(2, { res := .tup [.str x, .int .i64 0] })] [1] rfl (by and_intros <;> first | exact True.intro | omega | rfl | exact Nat.le_of_ble_eq_true rfl | (refine up ?_; have h := ccanon_ok m (psG t hd k tm ex.toNat) hd b (nmS hd) unsP true false (B.bd (by omega) (by omega)); rw [hx] at h; exact h) | skip) ?_
                refine Runs.seq ?_
                refine Runs.seq ?_
                refine Runs.reg [(1, { res := .bool false })] [0] rfl (by and_intros <;> first | exact True.intro | omega | rfl | exact Nat.le_of_ble_eq_true rfl | (refine congrArg AV.bool ?_; decide)) ?_
                refine Runs.condF rfl ?_
                refine Runs.skip ?_
                refine Runs.seq ?_
                have hpt := psT_le t k.1 tm ex.toNat (nmS hd) (by omega) (by omega) 5 (by omega); have hsl := sigC_len k.2 tm x
                refine Runs.regD [(5, { res := .bs (keyC k.2 tm) false }), (7, { res := .str (basC tm) }), (11, { res := .str (sigC k.2 tm x) })] [4, 6, 8, 10] rfl rfl rfl (by and_intros <;> first | exact True.intro | omega | rfl | exact Nat.le_of_ble_eq_true rfl | exact up (skey_ok k.2 (dayC tm) usE s3E (by omega) (by have := dayC_le tm; omega) (by decide) (by decide)) | exact up (basic_all tm hB1 hB2) | exact up (sign_ok (keyC k.2 tm) (basC tm) (dayC tm ++ scopeS) x (keyC_len _ _ (by omega)) (by have := basC_le tm; omega) (by have := dayC_le tm; simp; omega) (B.txt (by omega) (by omega) hx)) | (simp only [List.length_append, List.length_cons, List.length_nil, mk_le]; omega) | skip) ?_
                refine Runs.seq ?_
                refine Runs.reg [] [] rfl (by and_intros <;> first | exact True.intro | omega | rfl | exact Nat.le_of_ble_eq_true rfl | skip) ?_
                exact Runs.retD Tryz.func8 rfl rfl rfl (by rw [preR_s hf (by omega) hq6 (by simp_all) hx]; rfl) (by rfl) rfl
          · try simp only [decide_eq_true_eq, decide_eq_false_iff_not, notT, notF, beq_iff_eq, beq_eq_false_iff_ne, bne_iff_ne, bne_eq_false_iff_eq, tmodN, tdivN, Int.not_lt, Int.not_le] at g70
            refine Runs.reg [] [] rfl (by and_intros <;> first | exact True.intro | omega | rfl | exact Nat.le_of_ble_eq_true rfl | skip) ?_
            exact meet_J ([38]) _ _ (by unfold mkC; first | (rw [if_pos (by assumption)]; done) | (rw [if_neg (by omega)])) (by exact agree_cons rfl (by first | with_reducible rfl | (refine congrArg (AV.int _) ?_; (try simp only [wrap_i64', wrap_u8, wrap_u16, wrap_u32, wrap_u64, wrap_i32, List.length_cons, List.length_nil, List.length_append, List.length_map, tmodN, tdivN]); omega) | rfl | skip) (agree_cons rfl (by first | with_reducible rfl | (refine congrArg (AV.int _) ?_; (try simp only [wrap_i64', wrap_u8, wrap_u16, wrap_u32, wrap_u64, wrap_i32, List.length_cons, List.length_nil, List.length_append, List.length_map, tmodN, tdivN]); omega) | rfl | skip) (agree_cons rfl (by first | with_reducible rfl | (refine congrArg (AV.int _) ?_; (try simp only [wrap_i64', wrap_u8, wrap_u16, wrap_u32, wrap_u64, wrap_i32, List.length_cons, List.length_nil, List.length_append, List.length_map, tmodN, tdivN]); omega) | rfl | skip) (agree_cons rfl (by first | with_reducible rfl | (refine congrArg (AV.int _) ?_; (try simp only [wrap_i64', wrap_u8, wrap_u16, wrap_u32, wrap_u64, wrap_i32, List.length_cons, List.length_nil, List.length_append, List.length_map, tmodN, tdivN]); omega) | rfl | skip) (agree_cons rfl (by first | with_reducible rfl | (refine congrArg (AV.int _) ?_; (try simp only [wrap_i64', wrap_u8, wrap_u16, wrap_u32, wrap_u64, wrap_i32, List.length_cons, List.length_nil, List.length_append, List.length_map, tmodN, tdivN]); omega) | rfl | skip) (agree_cons rfl (by first | with_reducible rfl | (refine congrArg (AV.int _) ?_; (try simp only [wrap_i64', wrap_u8, wrap_u16, wrap_u32, wrap_u64, wrap_i32, List.length_cons, List.length_nil, List.length_append, List.length_map, tmodN, tdivN]); omega) | rfl | skip) (agree_cons rfl (by first | with_reducible rfl | (refine congrArg (AV.int _) ?_; (try simp only [wrap_i64', wrap_u8, wrap_u16, wrap_u32, wrap_u64, wrap_i32, List.length_cons, List.length_nil, List.length_append, List.length_map, tmodN, tdivN]); omega) | rfl | skip) (agree_cons rfl (by first | with_reducible rfl | (refine congrArg (AV.int _) ?_; (try simp only [wrap_i64', wrap_u8, wrap_u16, wrap_u32, wrap_u64, wrap_i32, List.length_cons, List.length_nil, List.length_append, List.length_map, tmodN, tdivN]); omega) | rfl | skip) (trivial))))))))) (by rfl)
          · try simp only [decide_eq_true_eq, decide_eq_false_iff_not, notT, notF, beq_iff_eq, beq_eq_false_iff_ne, bne_iff_ne, bne_eq_false_iff_eq, tmodN, tdivN, Int.not_lt, Int.not_le] at g70
            refine Runs.skip ?_
            exact meet_J ([63]) _ _ (by unfold mkC; first | (rw [if_pos (by assumption)]; done) | (rw [if_neg (by omega)])) (by exact agree_cons rfl (by first | with_reducible rfl | (refine congrArg (AV.int _) ?_; (try simp only [wrap_i64', wrap_u8, wrap_u16, wrap_u32, wrap_u64, wrap_i32, List.length_cons, List.length_nil, List.length_append, List.length_map, tmodN, tdivN]); omega) | rfl | skip) (agree_cons rfl (by first | with_reducible rfl | (refine congrArg (AV.int _) ?_; (try simp only [wrap_i64', wrap_u8, wrap_u16, wrap_u32, wrap_u64, wrap_i32, List.length_cons, List.length_nil, List.length_append, List.length_map, tmodN, tdivN]); omega) | rfl | skip) (agree_cons rfl (by first | with_reducible rfl | (refine congrArg (AV.int _) ?_; (try simp only [wrap_i64', wrap_u8, wrap_u16, wrap_u32, wrap_u64, wrap_i32, List.length_cons, List.length_nil, List.length_append, List.length_map, tmodN, tdivN]); omega) | rfl | skip) (agree_cons rfl (by first | with_reducible rfl | (refine congrArg (AV.int _) ?_; (try simp only [wrap_i64', wrap_u8, wrap_u16, wrap_u32, wrap_u64, wrap_i32, List.length_cons, List.length_nil, List.length_append, List.length_map, tmodN, tdivN]); omega) | rfl | skip) (agree_cons rfl (by first | with_reducible rfl | (refine congrArg (AV.int _) ?_; (try simp only [wrap_i64', wrap_u8, wrap_u16, wrap_u32, wrap_u64, wrap_i32, List.length_cons, List.length_nil, List.length_append, List.length_map, tmodN, tdivN]); omega) | rfl | skip) (agree_cons rfl (by first | with_reducible rfl | (refine congrArg (AV.int _) ?_; (try simp only [wrap_i64', wrap_u8, wrap_u16, wrap_u32, wrap_u64, wrap_i32, List.length_cons, List.length_nil, List.length_append, List.length_map, tmodN, tdivN]); omega) | rfl | skip) (agree_cons rfl (by first | with_reducible rfl | (refine congrArg (AV.int _) ?_; (try simp only [wrap_i64', wrap_u8, wrap_u16, wrap_u32, wrap_u64, wrap_i32, List.length_cons, List.length_nil, List.length_append, List.length_map, tmodN, tdivN]); omega) | rfl | skip) (agree_cons rfl (by first | with_reducible rfl | (refine congrArg (AV.int _) ?_; (try simp only [wrap_i64', wrap_u8, wrap_u16, wrap_u32, wrap_u64, wrap_i32, List.length_cons, List.length_nil, List.length_append, List.length_map, tmodN, tdivN]); omega) | rfl | skip) (trivial))))))))) (by rfl)

end Go.Proofs.YtdigohaeakclfaaGreatDoor
