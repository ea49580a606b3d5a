/- EncLent walked, over whatever its callees tell. -/
import Derived.Test.YtfkpdfpnpcdhaaaE3
set_option maxRecDepth 100000
set_option linter.unusedVariables false
set_option linter.unusedSimpArgs false
set_option linter.unusedSectionVars false
namespace Go.Proofs.Ytfkpdfpnpcdhaaa
open Go Go.Am Go.RowKit
attribute [local go_sem] Oper.semAt_some
theorem FrAt.cast {N : Nat} {w : World} {v : Value} {xs ys : List Value} (h : FrAt N w v xs) (e : xs = ys) : FrAt N w v ys := e ▸ h
theorem below_dn {B : Nat} {w W : World} (h : Below B w W) (n : Nat) : Below B w (W.drewN n) := ⟨h.os, h.tape, h.output, h.size, h.block⟩
theorem FrAt.heap {N : Nat} {w w' : World} {v : Value} {xs : List Value} (h : FrAt N w v xs) (e : w'.heap = w.heap) : FrAt N w' v xs := by
  unfold FrAt World.cell? World.frozen? at *
  rw [e]; exact h
theorem below_sz {B : Nat} {w w' : World} (h : Below B w w') : w.heap.size ≤ w'.heap.size := h.size
theorem i5 : (Try.prog.info? 5).map (fun i => (i.zero, i.size, i.bytes)) = some (some (.int .u8 0), 1, 1) := by kernel_rfl
theorem info_parts {t : TypeId} {z : Option Value} {s b : Nat} (h : (Try.prog.info? t).map (fun i => (i.zero, i.size, i.bytes)) = some (z, s, b)) : ∃ i, Try.prog.info? t = some i ∧ i.zero = z ∧ i.size = s ∧ i.bytes = b := by
  cases hc : Try.prog.info? t with
  | none => rw [hc] at h; cases h
  | some i => rw [hc] at h; injection h with h; injection h with h1 h2; injection h2 with h2 h3; exact ⟨i, rfl, h1, h2, h3⟩
theorem cell_one_new' (w : World) (x : Value) (t : TypeId) : ∀ j u, [x][j]? = some u → (w.alloc (.cells #[x] t)).cell? ((⟨w.heap.size, 0, none⟩ : Addr).add j) = some u := by
  intro j u hu
  match j with
  | 0 =>
    cases hu
    show (w.alloc _).cell? ((mkA w.heap.size 0).add 0) = _
    rw [mkA_add]
    show (match (w.heap.push (Obj.cells #[x] t))[w.heap.size]? with | some (.cells vs _ _) => if (none : Option Nat).isSome = true then none else vs[0]? | _ => none) = _
    rw [Array.getElem?_push_size]; rfl
  | j + 1 => simp at hu
theorem FrAt.set_other {N : Nat} {w : World} {v : Value} {xs : List Value} (h : FrAt N w v xs) {b o : Nat} (hb : b < N) (x : Value) : FrAt N (w.setCell (mkA b o) x) v xs := by
  obtain ⟨base, cap, h1, h2, h3, h4⟩ := h
  refine ⟨base, cap, h1, h2, h3, fun b' o' e q u hu => ?_⟩
  obtain ⟨c1, c2, c3⟩ := h4 b' o' e q u hu
  rw [frzSet]
  refine ⟨?_, c2, c3⟩
  have : (w.setCell (mkA b o) x).heap[(mkA b' (o' + q)).block]? = w.heap[(mkA b' (o' + q)).block]? := Below.heap_setCell _ _ _ _ (by simp only [mkA]; omega)
  rw [World.cell?_of_block this]; exact c1
theorem FrAt.of_row {N : Nat} {w : World} {e : TypeId} {v : Value} {n : Nat} {xs : List Value} (h : w.ownsRow N e 1 v n xs) (hn : 0 < n) : ∃ g cap, v = .slice (some (mkA g 0)) n cap ∧ n ≤ cap ∧ FrAt N w v xs := by
  have hx := h.1
  rcases h.2 with ⟨_, h0⟩ | ⟨g, cap, cur, rfl, hg, hc, h1, h2, h3, h4⟩
  · omega
  · refine ⟨g, cap, rfl, h1, some (g, 0), cap, by simp [mkA]; omega, by omega, by simp, fun b o e' q u hu => ?_⟩
    cases e'
    refine ⟨?_, hg, by simp [World.frozen?, mkA, hc]⟩
    rw [← h4, List.getElem?_take] at hu
    split at hu
    · simp only [World.cell?, mkA, hc]; simpa using hu
    · cases hu
theorem FrAt.front {N : Nat} {w : World} {g o n cap : Nat} {xs ys : List Value} (h : FrAt N w (.slice (some (mkA g o)) n cap) (xs ++ ys)) : SlAt w (.slice (some (mkA g o)) xs.length cap) xs := by
  obtain ⟨base, cap', h1, h2, h3, h4⟩ := h
  cases base with
  | none => simp at h1
  | some p =>
    obtain ⟨b', o'⟩ := p
    simp only [Option.map_some, Value.slice.injEq, Option.some.injEq, mkA, Addr.mk.injEq] at h1
    obtain ⟨⟨rfl, rfl, _⟩, _, rfl⟩ := h1
    refine ⟨some (g, o), cap, by simp [mkA], by simp at h2; omega, by simp, fun b o e q u hu => ?_⟩
    cases e
    exact (h4 g o rfl q u (by rw [List.getElem?_append_left (List.getElem?_eq_some_iff.1 hu).1]; exact hu)).1
theorem FrAt.at_nil {w : World} {v : Value} {xs : List Value} {N : Nat} (h : FrAt N w v xs) (e : ∃ n c, v = .slice none n c) : xs = [] := by
  obtain ⟨base, cap', h1, h2, h3, h4⟩ := h
  obtain ⟨n, c, rfl⟩ := e
  cases base with
  | some p => simp at h1
  | none => have := h3 rfl; exact List.eq_nil_of_length_eq_zero (by omega)
theorem run_append_none (w : World) (t ty e : TypeId) (i : TypeInfo) (ht : Try.prog.underlying t = some (.slice e)) (hi : Try.prog.info? e = some i) (b : Option Addr) (n cap c : Nat) (h : n ≤ cap) :
    (Builtin.append_ #[t, t] ty #[.slice b n cap, .slice none 0 c]).run Try.prog w = .ok (.slice b n cap) w := by
  cases b with
  | none => simp [Builtin.append_, run_underlying ht, sizeOf, typeInfo, hi, Builtin.lenOf, h, Builtin.firstCells]
  | some a => simp [Builtin.append_, run_underlying ht, sizeOf, typeInfo, hi, Builtin.lenOf, h, Builtin.firstCells, storeCells]
theorem wpList_append_sl {ops : Array Oper} {rest : List Oper} {o : Oper} {a : Act} {Q : Exit → Act → World → Prop} {w : World} (hgd : o.guard = none) (s x : Operand) (t : TypeId)
    (ho : o.op = .call { callee := .builtin .append, args := #[s, x], argTypes := #[t, t] })
    (base : Nat) (e : TypeId) (i : TypeInfo) (z : Value) (bytes : Nat) (ht : Try.prog.underlying t = some (.slice e)) (hi : Try.prog.info? e = some i) (hz : i.zero = some z)
    (hsize : i.size = 1) (hby : i.bytes = bytes) (hzs : z.cells.size = 1)
    (v : Value) (n : Nat) (xs : List Value) (hs : a.eval s = v) (hown : w.ownsRow base e 1 v n xs)
    (vx : Value) (news : List Value) (hx : a.eval x = vx) (hsl : SlAt w vx news) (h1 : ∀ u ∈ news, u.oneCell' = true)
    (h63 : n + news.length ≤ maxLen) (hbytes : (n + news.length) * bytes ≤ 140737488355328) (hbase : base ≤ w.heap.size)
    (h : ∀ v' w', w'.ownsRow base e 1 v' (n + news.length) (xs ++ news) → w.grownBy w' v.ownBlock → wpList Try.prog ops Q rest (a.put o.dst v') w') : wpList Try.prog ops Q (o :: rest) a w := by
  obtain ⟨bs, cap, h1', h2, h3, h4⟩ := hsl
  cases bs with
  | some p =>
    obtain ⟨b', o'⟩ := p
    refine wpList_append_own w hgd s x t ho base e i z 1 bytes ht hi hz hsize hby hzs (by decide) v n xs hs hown (mkA b' o') news.length cap news (by rw [hx, h1']; rfl) (by omega) (fun j u hu => by rw [mkA_add]; exact h4 b' o' rfl j u hu) h1 h63 hbytes hbase fun v' w' k1 k2 _ => h v' w' k1 k2
  | none =>
    have hc := h3 rfl
    have hn : news = [] := List.eq_nil_of_length_eq_zero (by omega)
    subst hn; subst hc
    refine wpList_plain hgd fun K hK => ?_
    have hv : ∃ b c, v = .slice b n c ∧ n ≤ c := by
      rcases hown.2 with ⟨rfl, rfl⟩ | ⟨g, cap', cur, rfl, _, _, h5, _⟩
      · exact ⟨none, 0, rfl, Nat.le_refl _⟩
      · exact ⟨_, _, rfl, h5⟩
    obtain ⟨b, c, rfl, hnc⟩ := hv
    unfold Oper.wp execOp
    simp only [ho, resolve, invoke, builtin, Sem.run_bind, Sem.run_pure, Result.andThen_ok, List.map_toArray, List.map_cons, List.map_nil, hs, hx, h1', Option.map_none, List.length_nil, run_append_none w t o.type e i ht hi b n c 0 hnc]
    exact hK _ _ (h _ _ (by simpa using hown) ⟨rfl, rfl, rfl, Nat.le_refl _, fun _ _ _ => rfl⟩)
def byteV (x : Value) : Prop := ∃ c : Nat, x = .int .u8 c ∧ c < 256
set_option maxHeartbeats 4000000 in
theorem lent_core (n m nl nb : Nat) (PV LV BV : List Value) (S : ByteArray) (hn : n ≤ 8388608) (hm : m = n + 1) (hnl : nl ≤ 1048576) (hnb : nb ≤ 1048576) (hPV : PV.length = n) (hLV : LV.length = nl) (hBV : BV.length = nb)
    (hP1 : ∀ u, u ∈ PV → u.oneCell' = true) (hB1' : ∀ u, u ∈ BV → byteV u)
    (hpack : ∀ w v, SlAt w v LV → Calls Try.prog 17 #[v] w fun e w' => ∃ u, e = .returned u ∧ FrAt w.heap.size w' u PV ∧ Below w.heap.size w w')
    (hunp : ∀ w v, SlAt w v PV → Calls Try.prog 18 #[v] w fun e w' => ∃ u, e = .returned (.tuple #[u, .bool true]) ∧ FrAt w.heap.size w' u LV ∧ Below w.heap.size w w')
    (hhex : ∀ w v, SlAt w v BV → Calls Try.prog 13 #[v] w fun e w' => e = .returned (.string S) ∧ Below w.heap.size w w')
    (hunh : ∀ w, Calls Try.prog 11 #[.string S] w fun e w' => ∃ u, e = .returned (.tuple #[u, .bool true]) ∧ FrAt w.heap.size w' u BV ∧ Below w.heap.size w w')
    (hst : ∀ w v u, SlAt w v LV → SlAt w u LV → Calls Try.prog 19 #[v, u] w fun e w' => e = .returned (.bool true) ∧ Below w.heap.size w w')
    (hrp : ∀ w v, SlAt w v LV → Calls Try.prog 20 #[v] w fun e w' => ∃ u, e = .returned u ∧ FrAt w.heap.size w' u PV ∧ Below w.heap.size w w')
    (hsame : ∀ w v u, SlAt w v PV → SlAt w u PV → Calls Try.prog 15 #[v, u] w fun e w' => e = .returned (.bool true) ∧ Below w.heap.size w w')
    (haw : ∀ w, Calls Try.prog 16 #[] w fun e w' => e = .returned (.bool true) ∧ Below w.heap.size w w')
    (w : World) (vb vl : Value) (hvb : SlAt w vb BV) (hvl : SlAt w vl LV) :
    Calls Try.prog 4 #[vb, vl] w fun e w' => e = .returned (.bool true) ∧ Below w.heap.size w w' := by
  obtain ⟨i0, hi, hz0, hz1, hz2⟩ := info_parts i5
  have KP : Hid (_ ∧ _ ∧ _ ∧ _ ∧ _ ∧ _ ∧ _ ∧ _) := ⟨hpack, hunp, hhex, hunh, hst, hrp, hsame, haw⟩
  have KI : Hid (_ ∧ _ ∧ _ ∧ _ ∧ _ ∧ _ ∧ _ ∧ _ ∧ _ ∧ _ ∧ _ ∧ _ ∧ _) := ⟨hi, hz0, hz1, hz2, hP1, hB1', hPV, hLV, hBV, hn, hm, hnl, hnb⟩
  clear hunp hhex hunh hst hrp hsame haw hi hz0 hz1 hz2 hP1 hB1' hLV hBV hm hnl hnb
  go_enter Try.func4, Try.ntmps4
  go_wp2_with (go_at_call 17; refine (hpack w vl hvl).mono ?_; rintro e w1 ⟨p, rfl, hfp, hB1⟩)
  go_wp2_with (go_at_call 17; refine (hpack w1 vl (hvl.below (Nat.le_refl _) hB1)).mono ?_; rintro e w2 ⟨q, rfl, hfq, hB2⟩)
  obtain ⟨qb, qc, hq⟩ := hfq.len
  rw [hPV] at hq
  subst hq
  have hs1 := hB1.size
  have hs2 := hB2.size
  clear hpack
  go_loopw [7] (fun i wr => ∃ (k : Nat) (xs : List Value), i = .int .i64 k ∧ k ≤ n ∧ xs.length = n ∧ FrAt w1.heap.size wr (.slice qb n qc) xs ∧ Below w1.heap.size w1 wr)
    (fun i _ => match i with | .int _ k => n - k.toNat | _ => 0)
  case atStart => exact ⟨0, _, rfl, Nat.zero_le _, hPV, hfq, hB2⟩
  case round =>
    obtain ⟨k, xs, rfl, hk, hxs, hfx, hBx⟩ := hrel
    by_cases hk2 : k < n
    · have hkx : k < xs.length := by omega
      obtain ⟨qB, qO, qC, hq, hNq, hcq, hcell⟩ := hfx.some_of hkx
      injection hq with h1 h2 h3; subst h1; subst h3
      obtain ⟨hset, hNb⟩ := FrAt.set (hxs ▸ hfx) hkx (.int .u8 7)
      obtain ⟨c1, c2⟩ := hcell k _ (List.getElem?_eq_getElem hkx)
      generalize xs[k] = u at c1
      have hw : wrap64 ((k : Int) + 1) = ((k + 1 : Nat) : Int) := by unfold wrap64; omega
      have hBset : Below w1.heap.size w1 (wr.setCell (mkA qB (qO + k)) (.int .u8 7)) := hBx.setCell (p := mkA qB (qO + k)) hNb _
      rw [hxs] at hset
      have HD : Hid ((xs.set k (Value.int .u8 7)).length = n ∧ _ ∧ _) := ⟨(List.length_set ..).trans hxs, hset, hBset⟩
      clear hcell hfx hset hBset hxs hfp hfq hvb hvl
      simp only [mkA] at *
      go_wp2
      obtain ⟨d1, d2, d3⟩ := HD.out
      exact ⟨⟨k + 1, xs.set k (.int .u8 7), by simp, by omega, d1, d2, d3⟩, by simp; omega⟩
    · have hke : k = n := by omega
      subst hke
      obtain ⟨wA, hwA⟩ : ∃ z, z = wr := ⟨_, rfl⟩
      rw [← hwA] at hBx hfx ⊢
      clear hwA
      have hfp3 : FrAt w.heap.size wA p PV := hfp.below (Nat.le_refl _) hBx
      have hfp4 := hfp3.at_
      obtain ⟨pb, pc, hpe⟩ := hfp3.len
      rw [hPV] at hpe
      subst hpe
      have hsr := hBx.size
      have hfp5 : SlAt (wA.alloc (.cells #[] 5)) (.slice pb k pc) PV := hfp4.below (Nat.le_refl _) ((Below.refl _ _).alloc (Nat.le_refl _) _)
      clear hfq hfx hfp3 hfp4 hB2 hs2
      go_wp2_with first
        | (at_builtin; refine wpList_append_sl rfl _ _ 22 rfl w1.heap.size 5 i0 (.int .u8 0) 1 Try.underlying22 KI.out.1 KI.out.2.1 KI.out.2.2.1 KI.out.2.2.2.1 rfl (.slice (some ⟨wA.heap.size, 0, none⟩) 0 0) 0 [] rfl (World.ownsRow_made wA #[] 0 hsr (Nat.zero_le _) rfl) _ PV rfl hfp5 KI.out.2.2.2.2.1 (by simp [maxLen]; omega) (by omega) (by simp; omega) ?_
           intro v1 w3 hown1 hgrow1
           have hB3 : Below w1.heap.size w1 w3 := (hBx.alloc hsr _).grown hgrow1 (by simp; omega) (fun k hk => by cases hk; exact hsr)
           have hown2 : w3.ownsRow w1.heap.size 5 1 v1 k PV := by simpa [hPV] using hown1
           clear hown1 hgrow1 hfp5)
        | (at_builtin; refine wpList_append_own _ rfl _ _ 22 rfl w1.heap.size 5 i0 (.int .u8 0) 1 1 Try.underlying22 KI.out.1 KI.out.2.1 KI.out.2.2.1 KI.out.2.2.2.1 rfl (by decide) v1 k PV rfl (hown2.alloc _) ⟨w3.heap.size, 0, none⟩ 1 1 [.int .u8 77] rfl rfl (cell_one_new' _ _ _) (by simp [Value.oneCell']) (by simp [maxLen]; omega) (by omega) (by have := hB3.size; simp; omega) ?_
           intro v2 w4 hown3 hgrow2 _
           rw [← KI.out.2.2.2.2.2.2.2.2.2.2.1] at hown3
           have hB4 : Below w1.heap.size w1 w4 := (hB3.alloc hB3.size _).grown hgrow2 (by have := hB3.size; simp; omega) (fun k hk => (hown2.lt k hk).1)
           have hm := KI.out.2.2.2.2.2.2.2.2.2.2.1
           obtain ⟨g, cap, hv2, hcap, hfo⟩ := FrAt.of_row hown3 (by omega)
           have hcap' : k ≤ cap := by omega
           clear hm
           have hso : SlAt w4 (.slice (some (mkA g 0)) k cap) PV := by
             subst hv2; rw [← hPV]; exact hfo.front
           subst hv2
           have hg4 : g < w4.heap.size := by
             obtain ⟨b', o', c', e, _, _, hcell⟩ := hfo.some_of (j := 0) (by simp)
             simp only [Value.slice.injEq, Option.some.injEq, mkA, Addr.mk.injEq] at e
             obtain ⟨⟨rfl, rfl, _⟩, _, rfl⟩ := e
             exact World.block_lt_of_cell? _ _ (hcell 0 _ (List.getElem?_eq_getElem (by simp))).1
           clear hown3 hgrow2 hown2 hB3)
        | (go_at_call 18; refine (KP.out.2.1 w4 _ hso).mono ?_
           rintro e w5 ⟨x, rfl, hx, hB5⟩)
        | (go_at_call 18; refine (KP.out.2.1 w5 _ (hso.below (Nat.le_refl _) hB5)).mono ?_
           rintro e w6 ⟨y, rfl, hy, hB6⟩)
      have h41 := hB4.size
      have h54 := hB5.size
      obtain ⟨yb, yc, hye⟩ := hy.len
      rw [KI.out.2.2.2.2.2.2.2.1] at hye
      subst hye
      have hLV := KI.out.2.2.2.2.2.2.2.1
      have hPV' := KI.out.2.2.2.2.2.2.1
      have hm := KI.out.2.2.2.2.2.2.2.2.2.2.1
      have hnl := KI.out.2.2.2.2.2.2.2.2.2.2.2.1
      have a0 : ∃ (j : Nat) (ys : List Value), Value.int .i64 0 = .int .i64 j ∧ j ≤ nl ∧ ys.length = nl ∧ FrAt w5.heap.size w6 (.slice yb nl yc) ys ∧ Below w5.heap.size w5 w6 := ⟨0, _, rfl, Nat.zero_le _, hLV, hy, hB6⟩
      have hHD : Hid (_ ∧ _ ∧ _ ∧ _ ∧ _ ∧ _ ∧ _ ∧ _ ∧ _ ∧ _ ∧ _) := ⟨hvb, hvl, hfp, hfo, hx, hB1, hB4, hB5, hs1, h41, h54⟩
      clear hvb hvl hfp hfo hx hB1 hB4 hB5 hs1 h41 h54 hy hB6 hso hsr hLV hPV' hm hn hPV hcap hBx
      go_loopw [13] (fun i wy => ∃ (j : Nat) (ys : List Value), i = .int .i64 j ∧ j ≤ nl ∧ ys.length = nl ∧ FrAt w5.heap.size wy (.slice yb nl yc) ys ∧ Below w5.heap.size w5 wy)
        (fun i _ => match i with | .int _ j => nl - j.toNat | _ => 0)
      case atStart => exact a0
      case round =>
        clear a0
        obtain ⟨j, ys, rfl, hj, hys, hfy, hBy⟩ := hrel
        by_cases hj2 : j < nl
        · have hjx : j < ys.length := by omega
          obtain ⟨qB, qO, qC, hq, hNq, hcq, hcell⟩ := hfy.some_of hjx
          injection hq with h1 h2 h3; subst h1; subst h3
          obtain ⟨hset, hNb⟩ := FrAt.set (hys ▸ hfy) hjx (.string ⟨#[122]⟩)
          obtain ⟨c1, c2⟩ := hcell j _ (List.getElem?_eq_getElem hjx)
          generalize ys[j] = u at c1
          have hw : wrap64 ((j : Int) + 1) = ((j + 1 : Nat) : Int) := by unfold wrap64; omega
          have hBset := hBy.setCell (p := mkA qB (qO + j)) hNb (.string ⟨#[122]⟩)
          rw [hys] at hset
          have HD : Hid ((ys.set j (Value.string ⟨#[122]⟩)).length = nl ∧ _ ∧ _) := ⟨(List.length_set ..).trans hys, hset, hBset⟩
          clear hcell hfy hset hBset hys hcq hNq hNb hBy h2 hjx
          simp only [mkA] at *
          go_wp2
          obtain ⟨d1, d2, d3⟩ := HD.out
          exact ⟨⟨j + 1, ys.set j (.string ⟨#[122]⟩), by simp, by omega, d1, d2, d3⟩, by simp; omega⟩
        · have hje : j = nl := by omega
          subst hje
          obtain ⟨wB, hwB⟩ : ∃ z, z = wr := ⟨_, rfl⟩
          rw [← hwB] at hBy hfy ⊢
          clear hwB
          obtain ⟨hvb, hvl, hfp, hfo, hx, hB1, hB4, hB5, hs1, h41, h54⟩ := hHD.out
          have hfx : FrAt w4.heap.size wB x LV := hx.below (Nat.le_refl _) hBy
          have hB7 := hB5.trans (hBy.mono h54)
          have hfo2 := hfo.below (Nat.le_refl _) hB7
          have hB9 : Below w1.heap.size w1 wB := hB4.trans (hB7.mono h41)
          have hPV' := KI.out.2.2.2.2.2.2.1
          have hm := KI.out.2.2.2.2.2.2.2.2.2.2.1
          have hn := KI.out.2.2.2.2.2.2.2.2.2.1
          have hkm : k < m := by omega
          have a0 : ∃ (i : Nat) (zs : List Value), Value.int .i64 0 = .int .i64 i ∧ i ≤ k ∧ zs.length = m ∧ zs[k]? = some (.int .u8 77) ∧ FrAt w1.heap.size wB (.slice (some (mkA g 0)) m cap) zs ∧ Below w1.heap.size w1 wB ∧ FrAt w4.heap.size wB x LV :=
            ⟨0, _, rfl, Nat.zero_le _, by simp [hPV', hm], by rw [List.getElem?_append_right (by omega), hPV', Nat.sub_self]; rfl, hfo2, hB9, hfx⟩
          have hHE : Hid (_ ∧ _ ∧ _ ∧ _ ∧ _) := ⟨hvb, hvl, hfp, hB1, hs1⟩
          clear hHD hvb hvl hfp hfo hx hB1 hB4 hB5 hs1 h41 h54 hfx hB7 hfo2 hB9 hPV' hm hfy hBy hys hnl hj hj2
          go_wp2
          go_loopw [14] (fun i wz => ∃ (j : Nat) (zs : List Value), i = .int .i64 j ∧ j ≤ k ∧ zs.length = m ∧ zs[k]? = some (.int .u8 77) ∧ FrAt w1.heap.size wz (.slice (some (mkA g 0)) m cap) zs ∧ Below w1.heap.size w1 wz ∧ FrAt w4.heap.size wz x LV)
            (fun i _ => match i with | .int _ j => k - j.toNat | _ => 0)
          case atStart => exact a0
          case round =>
            clear a0
            obtain ⟨i, zs, rfl, hi, hzs, hz7, hfz, hBz, hxz⟩ := hrel
            by_cases hi2 : i < k
            · have hix : i < zs.length := by omega
              have him : i < m := by omega
              obtain ⟨qB, qO, qC, hq, hNq, hcq, hcell⟩ := hfz.some_of hix
              simp only [Value.slice.injEq, Option.some.injEq, mkA, Addr.mk.injEq] at hq
              obtain ⟨⟨rfl, rfl, _⟩, _, rfl⟩ := hq
              obtain ⟨hset, hNb⟩ := FrAt.set (hzs ▸ hfz) hix (.int .u8 0)
              obtain ⟨c1, c2⟩ := hcell i _ (List.getElem?_eq_getElem hix)
              generalize zs[i] = u at c1
              have hw : wrap64 ((i : Int) + 1) = ((i + 1 : Nat) : Int) := by unfold wrap64; omega
              have hBset := hBz.setCell (p := mkA g (0 + i)) hNb (.int .u8 0)
              have hxset := hxz.set_other (b := g) (o := 0 + i) hg4 (.int .u8 0)
              rw [Nat.zero_add] at c1 c2 hset hBset hxset
              rw [hzs] at hset
              have HD : Hid ((zs.set i (Value.int .u8 0)).length = m ∧ (zs.set i (Value.int .u8 0))[k]? = some (.int .u8 77) ∧ _ ∧ _ ∧ _) :=
                ⟨(List.length_set ..).trans hzs, by rw [List.getElem?_set_ne (by omega)]; exact hz7, hset, hBset, hxset⟩
              clear hcell hfz hzs hz7 hxz hxset hset hBset hNq hNb hcq hBz hix
              simp only [mkA] at *
              go_wp2
              obtain ⟨d1, d2, d3, d4, d5⟩ := HD.out
              exact ⟨⟨i + 1, zs.set i (.int .u8 0), by simp, by omega, d1, d2, d3, d4, d5⟩, by simp; omega⟩
            · have hie : i = k := by omega
              subst hie
              obtain ⟨wC, hwC⟩ : ∃ z, z = wr := ⟨_, rfl⟩
              rw [← hwC] at hfz hBz hxz ⊢
              clear hwC
              obtain ⟨hvb, hvl, hfp, hB1, hs1⟩ := hHE.out
              have hBC : Below w.heap.size w wC := hB1.trans (hBz.mono hs1)
              have hvbC := hvb.below (Nat.le_refl _) hBC
              have hvlC := hvl.below (Nat.le_refl _) hBC
              have hfpC : FrAt w.heap.size wC (.slice pb i pc) PV := hfp.below (Nat.le_refl _) hBz
              have HF : Hid (_ ∧ _ ∧ _ ∧ _ ∧ _ ∧ _ ∧ _) := ⟨hBC, hvlC, hfpC, hzs, hz7, hfz, hxz⟩
              clear hHE hvb hvl hfp hB1 hs1 hBC hvlC hfpC hzs hz7 hfz hxz hBz hi hi2 hcap'
              go_wp2_with first
                | (go_at_call 13; refine (KP.out.2.2.1 wC _ hvbC).mono ?_; rintro e w7 ⟨rfl, hB10⟩)
                | (go_at_call 11; refine (KP.out.2.2.2.1 w7).mono ?_; rintro e w8 ⟨u, rfl, hu, hB11⟩)
              obtain ⟨ub, uc, hue⟩ := hu.len
              rw [KI.out.2.2.2.2.2.2.2.2.1] at hue
              subst hue
              have a0 : ∃ (j : Nat) (us : List Value), Value.int .i64 0 = .int .i64 j ∧ j ≤ nb ∧ us.length = nb ∧ (∀ v, v ∈ us → byteV v) ∧ FrAt w7.heap.size w8 (.slice ub nb uc) us ∧ Below w7.heap.size w7 w8 :=
                ⟨0, BV, rfl, Nat.zero_le _, KI.out.2.2.2.2.2.2.2.2.1, KI.out.2.2.2.2.2.1, hu, hB11⟩
              have hnb := KI.out.2.2.2.2.2.2.2.2.2.2.2.2
              have HG : Hid (Below wC.heap.size wC w7) := hB10
              clear hvbC hB10 hu hB11
              go_loopw [17] (fun i wu => ∃ (j : Nat) (us : List Value), i = .int .i64 j ∧ j ≤ nb ∧ us.length = nb ∧ (∀ v, v ∈ us → byteV v) ∧ FrAt w7.heap.size wu (.slice ub nb uc) us ∧ Below w7.heap.size w7 wu)
                (fun i _ => match i with | .int _ j => nb - j.toNat | _ => 0)
              case atStart => exact a0
              case round =>
                clear a0
                obtain ⟨j, us, rfl, hj, hus, huv, hfu, hBu⟩ := hrel
                by_cases hj2 : j < nb
                · have hjx : j < us.length := by omega
                  obtain ⟨qB, qO, qC, hq, hNq, hcq, hcell⟩ := hfu.some_of hjx
                  injection hq with h1 h2 h3; subst h1; subst h3
                  obtain ⟨c1, c2⟩ := hcell j _ (List.getElem?_eq_getElem hjx)
                  obtain ⟨c, hc, hlt⟩ := huv _ (List.getElem_mem hjx)
                  rw [hc] at c1
                  obtain ⟨d, hd⟩ : ∃ d : Nat, d = (c + 1) % 256 := ⟨_, rfl⟩
                  have hwv : IntKind.wrap .u8 ((c : Int) + 1) = (d : Int) := by rw [hd]; rfl
                  obtain ⟨hset, hNb⟩ := FrAt.set (hus ▸ hfu) hjx (.int .u8 d)
                  have hBset := hBu.setCell (p := mkA qB (qO + j)) hNb (.int .u8 d)
                  have hw : wrap64 ((j : Int) + 1) = ((j + 1 : Nat) : Int) := by unfold wrap64; omega
                  rw [hus] at hset
                  have hvs : ∀ v, v ∈ us.set j (Value.int .u8 d) → byteV v := fun v hv => by
                    rcases List.mem_or_eq_of_mem_set hv with h | h
                    · exact huv v h
                    · exact ⟨d, h, by omega⟩
                  have HD : Hid ((us.set j (Value.int .u8 d)).length = nb ∧ _ ∧ _ ∧ _) := ⟨(List.length_set ..).trans hus, hvs, hset, hBset⟩
                  clear hcell hfu hset hBset hus hcq hNq hNb hBu h2 hjx hvs huv hd hc hlt
                  simp only [mkA] at *
                  go_wp2
                  obtain ⟨d1, d2, d3, d4⟩ := HD.out
                  exact ⟨⟨j + 1, us.set j (.int .u8 d), by simp, by omega, d1, d2, d3, d4⟩, by simp; omega⟩
                · have hje : j = nb := by omega
                  subst hje
                  obtain ⟨wD, hwD⟩ : ∃ z, z = wr := ⟨_, rfl⟩
                  rw [← hwD] at hfu hBu ⊢
                  clear hwD
                  obtain ⟨hBC, hvlC, hfpC, hzs, hz7, hfz, hxz⟩ := HF.out
                  have hB10 : Below wC.heap.size wC w7 := HG.out
                  have h76 := hB10.size
                  have hBD : Below wC.heap.size wC wD := hB10.trans (hBu.mono h76)
                  have hxD : SlAt wD x LV := (hxz.below (Nat.le_refl _) hBD).at_
                  have hpD : SlAt wD (.slice pb i pc) PV := (hfpC.below (Nat.le_refl _) hBD).at_
                  have hvlD := hvlC.below (Nat.le_refl _) hBD
                  have hBwD : Below w.heap.size w wD := hBC.trans (hBD.mono hBC.size)
                  have c77 : wD.cell? (mkA g i) = some (.int .u8 77) := by
                    have hfzD := hfz.below (Nat.le_refl _) hBD
                    obtain ⟨b', o', c', e, _, _, hcell⟩ := hfzD.some_of (j := 0) (by omega)
                    simp only [Value.slice.injEq, Option.some.injEq, mkA, Addr.mk.injEq] at e
                    obtain ⟨⟨rfl, rfl, _⟩, _, rfl⟩ := e
                    have := (hcell _ _ hz7).1
                    rwa [Nat.zero_add] at this
                  have HH : Hid (Below w.heap.size w wD) := hBwD
                  clear HF HG hBC hvlC hfpC hzs hz7 hfz hxz hBwD hBD h76 hB10 hBu hfu hus huv hj hj2 hnb
                  simp only [mkA] at *
                  go_wp2_with first
                    | (go_at_call 19; refine (KP.out.2.2.2.2.1 wD _ _ hxD hvlD).mono ?_; rintro e w10 ⟨rfl, hB12⟩; have c78 := (hB12.cell (p := ⟨g, i, none⟩) (World.block_lt_of_cell? _ _ c77)).trans c77; clear c77)
                    | (go_at_call 20; refine (KP.out.2.2.2.2.2.1 w10 vl (hvlD.below (Nat.le_refl _) hB12)).mono ?_; rintro e w11 ⟨rp, rfl, hrp, hB13⟩)
                    | (go_at_call 15; refine (KP.out.2.2.2.2.2.2.1 w11 _ _ ((hpD.below (Nat.le_refl _) hB12).below (Nat.le_refl _) hB13) hrp.at_).mono ?_; rintro e w12 ⟨rfl, hB14⟩)
                    | (go_at_call 16; refine (KP.out.2.2.2.2.2.2.2 w12).mono ?_; rintro e w13 ⟨rfl, hB15⟩)
                  go_ret
                  have hs12 := hB12.size
                  have hs13 := hB13.size
                  have hs14 := hB14.size
                  have hBwD := HH.out
                  have hBend : Below w.heap.size w w13 := hBwD.trans ((((hB12.trans (hB13.mono hs12)).trans (hB14.mono (Nat.le_trans hs12 hs13))).trans (hB15.mono (Nat.le_trans hs12 (Nat.le_trans hs13 hs14)))).mono hBwD.size)
                  exact ⟨rfl, hBend⟩
end Go.Proofs.Ytfkpdfpnpcdhaaa
