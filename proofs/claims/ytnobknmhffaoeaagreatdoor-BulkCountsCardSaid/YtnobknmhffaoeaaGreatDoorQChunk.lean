/- slices.Chunk: its iterator gives the parts, one behind the other. Printed by gen_chunk.py. How many nodes each row has. No program is named. A drawn region in a round, walked as everywhere: the plain walk's goals ('wpAny') carry over into the fence of a round. -/
import Derived.Test.YtnobknmhffaoeaaGreatDoorQShelf
import Derived.Test.YtnobknmhffaoeaaGreatDoorQFlush
import Derived.Lib.Hide
import Derived.Deep.RegionHeld3
set_option linter.unusedVariables false
set_option linter.unusedSimpArgs false
namespace Go.Proofs.YtnobknmhffaoeaaGreatDoor
open Go.RowKit
attribute [local go_sem] Oper.semAt_some
def eSpot : Lay Spot := ⟨fun x => [.int .u32 x.block, .string x.low, .string x.top], 3, fun _ => rfl, by omega, fun x u hu => by simp at hu; rcases hu with rfl | rfl | rfl <;> rfl⟩
/-- Part i of a slice, of per elements each of sz cells. -/
def partV (b off sz len per i : Nat) : Value := .slice (some ⟨b, off + i * per * sz, none⟩) (min per (len - i * per)) (min per (len - i * per))
theorem part_rd {α : Type} {E : Lay α} {w : World} {b off len cap per i : Nat} {xs : List α} (h : Rd E w (.slice (some ⟨b, off, none⟩) len cap) xs) : Rd E w (partV b off E.sz len per i) ((xs.drop (i * per)).take per) := by
  obtain ⟨A, c, he, h1, h2, h3⟩ := h
  injection he with hA hn hc
  subst hA; subst hn
  have hl : ((xs.drop (i * per)).take per).length = min per (xs.length - i * per) := by simp
  refine ⟨_, min per (xs.length - i * per), by unfold partV; rw [hl], by rw [hl]; exact Nat.le_refl _, by omega, fun k u hu => ⟨b, off + i * per * E.sz, rfl, ?_⟩⟩
  have hpos := E.pos
  have hk : k < ((xs.drop (i * per)).take per).length * E.sz := by rw [← E.all_len]; exact (List.getElem?_eq_some_iff.1 hu).1
  -- the element and its cell
  obtain ⟨j, r, rfl, hr⟩ : ∃ j r, k = j * E.sz + r ∧ r < E.sz := ⟨k / E.sz, k % E.sz, by rw [Nat.mul_comm]; exact (Nat.div_add_mod k E.sz).symm, Nat.mod_lt _ hpos⟩
  have hj : j < ((xs.drop (i * per)).take per).length := by
    rcases Nat.lt_or_ge j ((xs.drop (i * per)).take per).length with h | h
    · exact h
    · have := Nat.mul_le_mul_right E.sz h; omega
  have hx := List.getElem?_eq_getElem hj
  generalize ((xs.drop (i * per)).take per)[j] = x at hx
  have hx2 : xs[i * per + j]? = some x := by
    have := take_get hx
    rwa [List.getElem?_drop] at this
  have hu2 : (E.enc x)[r]? = some u := by
    rw [← fm_get E.len _ j r x hx hr]; exact hu
  obtain ⟨b', off', he', hc'⟩ := h3 _ u (E.at_ hx2 hu2)
  injection he' with he'; injection he' with e1 e2; subst e1; subst e2
  rw [← hc']
  congr 2
  rw [Nat.add_mul]; omega

theorem chunk_pair (A : Option Addr) (len cap : Nat) (per : Nat) (hp : 1 ≤ per) (w : World) : Calls Tryz.prog 48 #[.slice A len cap, .int .i64 per] w fun e w' => ∃ gs gn, e = .returned (.func (.func 77) #[] #[.pointer (some ⟨gs, 0, none⟩), .pointer (some ⟨gn, 0, none⟩)]) ∧
    St w (FP w []) w' [(gn, C 3 [.int .i64 per]), (gs, C 24 [.slice A len cap])] := by
  have S0 := St.nil w
  have k1 : ¬ (per : Int) < 1 := by omega
  go_enter Tryz.func48, Tryz.ntmps48
  go_wp2_with (refine wpl_box S0 rfl _ _ rfl _ rfl ?_)
  intro gs w1 _ S1
  go_wp2_with (refine wpl_box S1 rfl _ _ rfl _ rfl ?_)
  intro gn w2 _ S2
  have c0 := S2.cell 0 rfl 0 rfl
  go_wp2
  go_ret
  exact ⟨gs, gn, rfl, S2⟩
set_option maxRecDepth 100000 in
set_option maxHeartbeats 2000000 in
theorem chunk_iter_pair (n : Nat) (hn : 1 ≤ n) (l gs gn b off len cap per : Nat) (hper : 1 ≤ per) (hp2 : per ≤ 100000) (hlen : len ≤ 100000) (hcap : len ≤ cap) (hcap2 : cap ≤ maxLen) (J : Nat → World → Prop) (Jx : World → Prop)
    (hbox : ∀ i W, J i W → W.cell? ⟨gs, 0, none⟩ = some (.slice (some ⟨b, off, none⟩) len cap) ∧ W.cell? ⟨gn, 0, none⟩ = some (.int .i64 per)) (hD : ∀ i W q, J i W → J i (W.drewN q))
    (hY : ∀ i W, J i W → i * per < len → YieldAt Fence.wide (n - 1) Tryz.prog l #[partV b off 2 len per i] W fun e W' => (e = .returned (.bool true) ∧ J (i + 1) W') ∨ (e = .returned (.bool false) ∧ Jx W'))
    (W : World) (h0 : J 0 W) :
    CallsIn Fence.wide n Tryz.prog 77 #[.func (.yield l) #[] #[], .pointer (some ⟨gs, 0, none⟩), .pointer (some ⟨gn, 0, none⟩)] W fun e W' => (∃ v, e = .returned v) ∧ ((∃ m, len ≤ m * per ∧ (m = 0 ∨ (m - 1) * per < len) ∧ J m W') ∨ Jx W') := by
  have mixed : Tryz.prog.follows .mixedOrders = true := by kernel_rfl
  have hbox' := Lib.hid hbox
  have hD' := Lib.hid hD
  clear hbox hD
  refine callsIn_of_wp Tryz.func77 rfl trivial ?_ rfl
  simp only [Tryz.ntmps77, List.size_toArray, List.length_cons, List.length_nil, Nat.reduceAdd, Nat.reduceSub, Array.replicate_succ, Array.replicate_zero, List.push_toArray, List.append_toArray, List.nil_append, List.cons_append]
  gi_wp2
  gi_loopw [4] (fun v4 wr => ∃ (i t : Nat), v4 = .int .i64 t ∧ Hid (t = i * per ∧ (i = 0 ∨ (i - 1) * per < len) ∧ J i wr)) (fun v4 _ => len - (intOf v4).toNat)
  case atStart => exact ⟨0, 0, rfl, by simp, .inl rfl, h0⟩
  case round =>
    obtain ⟨i, t, rfl, hh⟩ := hrel
    obtain ⟨ht, hbef, hJ⟩ := hh.out
    obtain ⟨c1, c2⟩ := hbox'.out i wr hJ
    replace ht := Lib.hid ht
    by_cases hlt : t < len
    · have ht2 : t ≤ len := by omega
      have k4 : (if len - t < per then ((len - t : Nat) : Int) else (per : Int)) = ((min per (len - t) : Nat) : Int) := by split <;> omega
      gi_wp2
      gi_big_quiet_th_o (fail)
      have hpv : partV b off 2 len per i = .slice (some ⟨b, off + t * 2, none⟩) (min per (len - t)) (min per (len - t)) := by unfold partV; rw [ht.out]
      obtain ⟨d1, d2⟩ := hbox'.out i _ (hD'.out i wr nq hJ)
      have hJ2 := hD'.out i wr nq hJ
      obtain ⟨fn, tmps, assign, body, hy, hR⟩ := hY i _ hJ2 (by rw [← ht.out]; exact hlt)
      rw [hpv] at hy
      have he1 : t + min per (len - t) ≤ len := by omega
      have he2 : min per (len - t) ≤ 100000 := by omega
      have he3 : 1 ≤ min per (len - t) := by omega
      have hem : Hid (t + per ≤ len → min per (len - t) = per) := by intro h; omega
      clear k4 hpv
      generalize min per (len - t) = e at *
      gi_wp2
      refine hR.mono ?_
      rintro e' W3 (⟨rfl, hJ3⟩ | ⟨rfl, hJx3⟩)
      · obtain ⟨x1, x2⟩ := hbox'.out _ _ hJ3
        gi_wp2
        go_roundw
        case rel =>
          refine ⟨i + 1, t + per, by simp, ?_, .inr ?_, hJ3⟩
          · rw [ht.out, Nat.add_mul, Nat.one_mul]
          · rw [Nat.add_sub_cancel, ← ht.out]; exact hlt
        case measure => simp [intOf]; omega
      · gi_wp2
        refine bodyPost_ret (results_none rfl _ _ _) rfl ?_
        exact ⟨⟨_, rfl⟩, .inr hJx3⟩
    · gi_wp2
      go_end0
      exact ⟨⟨_, rfl⟩, .inl ⟨i, by rw [← ht.out]; omega, hbef, hJ⟩⟩

theorem chunk_spot (A : Option Addr) (len cap : Nat) (per : Nat) (hp : 1 ≤ per) (w : World) : Calls Tryz.prog 49 #[.slice A len cap, .int .i64 per] w fun e w' => ∃ gs gn, e = .returned (.func (.func 78) #[] #[.pointer (some ⟨gs, 0, none⟩), .pointer (some ⟨gn, 0, none⟩)]) ∧
    St w (FP w []) w' [(gn, C 3 [.int .i64 per]), (gs, C 48 [.slice A len cap])] := by
  have S0 := St.nil w
  have k1 : ¬ (per : Int) < 1 := by omega
  go_enter Tryz.func49, Tryz.ntmps49
  go_wp2_with (refine wpl_box S0 rfl _ _ rfl _ rfl ?_)
  intro gs w1 _ S1
  go_wp2_with (refine wpl_box S1 rfl _ _ rfl _ rfl ?_)
  intro gn w2 _ S2
  have c0 := S2.cell 0 rfl 0 rfl
  go_wp2
  go_ret
  exact ⟨gs, gn, rfl, S2⟩
set_option maxRecDepth 100000 in
set_option maxHeartbeats 2000000 in
theorem chunk_iter_spot (n : Nat) (hn : 1 ≤ n) (l gs gn b off len cap per : Nat) (hper : 1 ≤ per) (hp2 : per ≤ 100000) (hlen : len ≤ 100000) (hcap : len ≤ cap) (hcap2 : cap ≤ maxLen) (J : Nat → World → Prop) (Jx : World → Prop)
    (hbox : ∀ i W, J i W → W.cell? ⟨gs, 0, none⟩ = some (.slice (some ⟨b, off, none⟩) len cap) ∧ W.cell? ⟨gn, 0, none⟩ = some (.int .i64 per)) (hD : ∀ i W q, J i W → J i (W.drewN q))
    (hY : ∀ i W, J i W → i * per < len → YieldAt Fence.wide (n - 1) Tryz.prog l #[partV b off 3 len per i] W fun e W' => (e = .returned (.bool true) ∧ J (i + 1) W') ∨ (e = .returned (.bool false) ∧ Jx W'))
    (W : World) (h0 : J 0 W) :
    CallsIn Fence.wide n Tryz.prog 78 #[.func (.yield l) #[] #[], .pointer (some ⟨gs, 0, none⟩), .pointer (some ⟨gn, 0, none⟩)] W fun e W' => (∃ v, e = .returned v) ∧ ((∃ m, len ≤ m * per ∧ (m = 0 ∨ (m - 1) * per < len) ∧ J m W') ∨ Jx W') := by
  have mixed : Tryz.prog.follows .mixedOrders = true := by kernel_rfl
  have hbox' := Lib.hid hbox
  have hD' := Lib.hid hD
  clear hbox hD
  refine callsIn_of_wp Tryz.func78 rfl trivial ?_ rfl
  simp only [Tryz.ntmps78, List.size_toArray, List.length_cons, List.length_nil, Nat.reduceAdd, Nat.reduceSub, Array.replicate_succ, Array.replicate_zero, List.push_toArray, List.append_toArray, List.nil_append, List.cons_append]
  gi_wp2
  gi_loopw [4] (fun v4 wr => ∃ (i t : Nat), v4 = .int .i64 t ∧ Hid (t = i * per ∧ (i = 0 ∨ (i - 1) * per < len) ∧ J i wr)) (fun v4 _ => len - (intOf v4).toNat)
  case atStart => exact ⟨0, 0, rfl, by simp, .inl rfl, h0⟩
  case round =>
    obtain ⟨i, t, rfl, hh⟩ := hrel
    obtain ⟨ht, hbef, hJ⟩ := hh.out
    obtain ⟨c1, c2⟩ := hbox'.out i wr hJ
    replace ht := Lib.hid ht
    by_cases hlt : t < len
    · have ht2 : t ≤ len := by omega
      have k4 : (if len - t < per then ((len - t : Nat) : Int) else (per : Int)) = ((min per (len - t) : Nat) : Int) := by split <;> omega
      gi_wp2
      gi_big_quiet_th_o (fail)
      have hpv : partV b off 3 len per i = .slice (some ⟨b, off + t * 3, none⟩) (min per (len - t)) (min per (len - t)) := by unfold partV; rw [ht.out]
      obtain ⟨d1, d2⟩ := hbox'.out i _ (hD'.out i wr nq hJ)
      have hJ2 := hD'.out i wr nq hJ
      obtain ⟨fn, tmps, assign, body, hy, hR⟩ := hY i _ hJ2 (by rw [← ht.out]; exact hlt)
      rw [hpv] at hy
      have he1 : t + min per (len - t) ≤ len := by omega
      have he2 : min per (len - t) ≤ 100000 := by omega
      have he3 : 1 ≤ min per (len - t) := by omega
      have hem : Hid (t + per ≤ len → min per (len - t) = per) := by intro h; omega
      clear k4 hpv
      generalize min per (len - t) = e at *
      gi_wp2
      refine hR.mono ?_
      rintro e' W3 (⟨rfl, hJ3⟩ | ⟨rfl, hJx3⟩)
      · obtain ⟨x1, x2⟩ := hbox'.out _ _ hJ3
        gi_wp2
        go_roundw
        case rel =>
          refine ⟨i + 1, t + per, by simp, ?_, .inr ?_, hJ3⟩
          · rw [ht.out, Nat.add_mul, Nat.one_mul]
          · rw [Nat.add_sub_cancel, ← ht.out]; exact hlt
        case measure => simp [intOf]; omega
      · gi_wp2
        refine bodyPost_ret (results_none rfl _ _ _) rfl ?_
        exact ⟨⟨_, rfl⟩, .inr hJx3⟩
    · gi_wp2
      go_end0
      exact ⟨⟨_, rfl⟩, .inl ⟨i, by rw [← ht.out]; omega, hbef, hJ⟩⟩
end Go.Proofs.YtnobknmhffaoeaaGreatDoor
namespace Go.Proofs.YtnobknmhffaoeaaGreatDoor
def upN (n b : Nat) : Nat := (n + b - 1) / b
theorem upN_lt {n b : Nat} (hn : 1 < n) (hb : 2 ≤ b) : upN n b < n := by
  unfold upN
  rw [Nat.div_lt_iff_lt_mul (by omega)]
  have h1 : n * 2 ≤ n * b := Nat.mul_le_mul_left _ hb
  have h2 : 2 * b ≤ n * b := Nat.mul_le_mul_right _ hn
  rcases Nat.lt_or_ge b 3 with h | h
  · have : b = 2 := by omega
    subst this; omega
  · have h3 : (n - 1) * (b - 1) ≥ 1 * 2 := Nat.mul_le_mul (by omega) (by omega)
    have h4 : n * b = (n - 1) * (b - 1) + n + b - 1 := by
      obtain ⟨m, rfl⟩ : ∃ m, n = m + 1 := ⟨n - 1, by omega⟩
      obtain ⟨c, rfl⟩ : ∃ c, b = c + 1 := ⟨b - 1, by omega⟩
      simp only [Nat.add_sub_cancel]
      rw [Nat.add_mul, Nat.mul_add]; omega
    omega
theorem upN_pos {n b : Nat} (hn : 1 ≤ n) (hb : 1 ≤ b) : 1 ≤ upN n b := by
  unfold upN
  rw [Nat.le_div_iff_mul_le (by omega)]; omega
theorem upN_le {n b : Nat} (hb : 1 ≤ b) : upN n b ≤ n := by
  unfold upN
  rcases Nat.eq_zero_or_pos n with rfl | hn
  · have : (0 + b - 1) / b = 0 := Nat.div_eq_of_lt (by omega)
    omega
  · have h0 : n * 1 ≤ n * b := Nat.mul_le_mul_left _ hb
    refine Nat.le_of_lt_succ ?_
    rw [Nat.div_lt_iff_lt_mul (by omega), Nat.succ_mul]; omega
theorem upN_mod (n b : Nat) (hb : 1 ≤ b) : upN n b = if n % b = 0 then n / b else n / b + 1 := by
  unfold upN
  have h := Nat.div_add_mod n b
  have hm := Nat.mod_lt n (show 0 < b by omega)
  generalize hq : n / b = q at *
  generalize hr : n % b = r at *
  have hn : n = b * q + r := h.symm
  subst hn
  by_cases h0 : r = 0
  · rw [if_pos h0, h0]
    rw [show b * q + 0 + b - 1 = (b - 1) + b * q by omega, Nat.add_mul_div_left _ _ (by omega), Nat.div_eq_of_lt (by omega)]; omega
  · rw [if_neg h0]
    rw [show b * q + r + b - 1 = (r - 1) + b * (q + 1) by rw [Nat.mul_add]; omega, Nat.add_mul_div_left _ _ (by omega), Nat.div_eq_of_lt (by omega)]; omega
/-- The rows, from one of n nodes on. -/
def rowsFrom (fan n : Nat) : List Nat := if h : 1 < n ∧ 2 ≤ fan then n :: rowsFrom fan (upN n fan) else [n]
termination_by n
decreasing_by exact upN_lt h.1 h.2
theorem rows_more {fan n : Nat} (h1 : 1 < n) (h2 : 2 ≤ fan) : rowsFrom fan n = n :: rowsFrom fan (upN n fan) := by
  conv => lhs; unfold rowsFrom
  rw [dif_pos ⟨h1, h2⟩]
theorem rows_end {fan n : Nat} (h1 : ¬ 1 < n) : rowsFrom fan n = [n] := by
  unfold rowsFrom
  rw [dif_neg (fun h => h1 h.1)]
theorem rows_len (fan : Nat) (hf : 2 ≤ fan) : ∀ n, (rowsFrom fan n).length ≤ n + 1 := by
  intro n
  induction n using Nat.strongRecOn with
  | ind n ih =>
    by_cases h1 : 1 < n
    · rw [rows_more h1 hf]
      have := ih _ (upN_lt h1 hf)
      have := upN_lt h1 hf
      simp; omega
    · rw [rows_end h1]; simp
theorem rows_sum (fan : Nat) (hf : 2 ≤ fan) : ∀ n, (rowsFrom fan n).sum ≤ 3 * n + 1 ∧ ∀ x ∈ rowsFrom fan n, x ≤ n := by
  intro n
  induction n using Nat.strongRecOn with
  | ind n ih =>
    by_cases h1 : 1 < n
    · rw [rows_more h1 hf]
      have hlt := upN_lt h1 hf
      obtain ⟨i1, i2⟩ := ih _ hlt
      have h2 : upN n fan * 2 ≤ n + 1 := by
        have : upN n fan ≤ upN n 2 := by
          unfold upN
          rw [Nat.le_div_iff_mul_le (by omega)]
          have hd := Nat.div_mul_le_self (n + fan - 1) fan
          generalize (n + fan - 1) / fan = q at *
          rcases Nat.eq_zero_or_pos q with rfl | hq
          · omega
          · obtain ⟨p, rfl⟩ : ∃ p, q = p + 1 := ⟨q - 1, by omega⟩
            rw [Nat.add_mul] at hd ⊢
            have : p * 2 ≤ p * fan := Nat.mul_le_mul_left _ hf
            omega
        unfold upN at this ⊢
        omega
      refine ⟨by simp; omega, fun x hx => ?_⟩
      rcases List.mem_cons.1 hx with rfl | hx
      · exact Nat.le_refl _
      · exact Nat.le_trans (i2 x hx) (Nat.le_of_lt hlt)
    · rw [rows_end h1]; exact ⟨by simp; omega, by simp⟩
end Go.Proofs.YtnobknmhffaoeaaGreatDoor
namespace Go.Proofs.YtnobknmhffaoeaaGreatDoor
open Go.RowKit
section
variable {P : Program} {ops : Array Oper} {md : Region.Mode} {Q : Exit → Act → World → Prop} {n r : Nat}
/-- The exits of the plain walk: the normal one alone. -/
def calmQ (Q : Exit → Act → World → Prop) : Exit → Act → World → Prop
  | .normal, a, w => Q .normal a w
  | _, _, _ => False
theorem opIn_of_plain {o : Oper} {a : Act} {w : World} {K K' : Act → World → Prop} (hd : ∀ c, o.op ≠ .defer c) (hK : ∀ a w, K a w → K' a w) (h : o.wp P a w K (calmQ Q)) : o.wpIn (Fence.wide.inRound r) n P a w K' Q := by
  refine ⟨fun f _ => trivial, ?_⟩
  have e1 : Oper.semAt (Fence.wide.inRound r).round a.eval o = execOp a.eval o := Oper.semAt_some r a.eval o hd
  rw [e1]
  unfold Oper.wp at h
  generalize (execOp a.eval o).run P w = x at *
  cases x with
  | ok x w' =>
    cases x with
    | value v => exact hK _ _ h
    | skip => exact hK _ _ h
    | defer d => exact hK _ _ h
    | enter f args =>
      refine ⟨fun h => (by cases h), CallsIn.inRound r ((callsIn_wide.2 h).mono ?_)⟩
      intro e w'' he
      cases e with
      | returned v => exact hK _ _ he
      | panicked c => exact he.elim
      | outgrown => obtain ⟨a, w, h⟩ := he; exact h.elim
    | row row args =>
      refine ⟨fun h => (by cases h), fun c cs _ => ?_⟩
      obtain ⟨v, w'', hr, hs⟩ := h c cs
      exact ⟨v, w'', hK _ _ hr, stepsIn_wide.2 hs⟩
    | _ => exact h.elim
  | halt s w' =>
    cases s with
    | panic v => exact h.elim
    | _ => exact h.elim
theorem anyIn_of_any (hd : ∀ (j : Nat) (o : Oper), ops[j]? = some o → ∀ c, o.op ≠ .defer c) : ∀ (g : Nat) (listed : Array Bool) (a : Act) (w : World), wpAny P md ops (calmQ Q) g listed a w → wpAnyIn (Fence.wide.inRound r) n P md ops Q g listed a w := by
  intro g
  induction g with
  | zero => intro listed a w h; exact h
  | succ g ih =>
    intro listed a w h
    refine ⟨fun h0 => h.1 h0, fun i hi => ?_⟩
    have h1 := h.2 i hi
    unfold wpOp at h1
    unfold wpOpIn
    cases ho : ops[i]? with
    | none => rw [ho] at h1; exact ih _ _ _ h1
    | some o =>
      rw [ho] at h1
      dsimp only at h1 ⊢
      split
      · rename_i hw
        rw [if_pos hw] at h1
        rcases h1 with h1 | ⟨_, a', w', h2⟩
        · exact opIn_of_plain (hd i o ho) (fun a w h => ih _ a w h) h1
        · exact h2.elim
      · rename_i hw
        rw [if_neg hw] at h1
        exact ⟨fun _ _ => trivial, ih _ _ _ h1⟩
theorem inR_region_any {id : Nat} {a : Act} {w : World} (hm : P.follows .mixedOrders = true) (hd : ops.all (fun o => match o.op with | .defer _ => false | _ => true) = true)
    (h : wpAny P .any ops (calmQ Q) ops.size (Array.replicate ops.size false) a w.drew) : (Code.region id ops true).wpIn (Fence.wide.inRound r) n P Q a w := by
  refine wpIn_region_any hm (anyIn_of_any (fun j o ho c hc => ?_) _ _ _ _ h)
  rw [Array.all_eq_true] at hd
  obtain ⟨hj, rfl⟩ := Array.getElem?_eq_some_iff.1 ho
  have := hd j hj
  rw [hc] at this
  exact absurd this (by simp)
end
/-- Two results that lie in cells. -/
theorem results_cells2 {P : Program} {fn : Func} {p t q u : Nat} (h : fn.results = #[.cell p t, .cell q u]) (tmps : Array Value) (w : World) {A B : Addr} {v v' : Value} {d d' : TypeDesc} (hp : tmps.getD p undef = .pointer (some A)) (hq : tmps.getD q undef = .pointer (some B))
    (ht : P.underlying t = some d) (hd : (match d with | .struct _ | .array _ _ => false | _ => true) = true) (hu : P.underlying u = some d') (hd' : (match d' with | .struct _ | .array _ _ => false | _ => true) = true) (h1 : w.cell? A = some v) (h2 : w.cell? B = some v') :
    (results fn tmps).run P w = .ok (.tuple #[v, v']) w := by
  have e1 : (loadVar t A).run P w = .ok v w := by
    unfold loadVar isAgg
    cases d <;> simp_all [run_underlying ht, go_sem]
  have e2 : (loadVar u B).run P w = .ok v' w := by
    unfold loadVar isAgg
    cases d' <;> simp_all [run_underlying hu, go_sem]
  have hp' : tmps[p]?.getD undef = .pointer (some A) := by simpa using hp
  have hq' : tmps[q]?.getD undef = .pointer (some B) := by simpa using hq
  simp [results, h, hp', hq', asAddr, e1, e2]
/-- A step of a region: an append whose run is known. -/
theorem step_run {P : Program} {ops : Array Oper} {o : Oper} {a : Act} {w : World} {K : Act → World → Prop} {Q : Exit → Act → World → Prop} {E : Prop} (hgd : o.guard = none) (s y : Operand) (t : Nat)
    (ho : o.op = .call { callee := .builtin .append, args := #[s, y], argTypes := #[t, t] }) {v u : Value} (hs : a.eval s = v) (hy : a.eval y = u) {v' : Value} {w' : World} (hr : (Builtin.append_ #[t, t] o.type #[v, u]).run P w = .ok v' w')
    (h : K (a.put o.dst v') w') : if Region.wanted o (yielded ops a.tmps) = true then Oper.wp P o a w K Q else E := by
  refine wanted_of hgd ?_
  unfold Oper.wp execOp
  simp only [ho, resolve, invoke, builtin, Sem.run_bind, Sem.run_pure, Result.andThen_ok, List.map_toArray, List.map_cons, List.map_nil, hs, hy, hr]
  exact h
section
variable {P : Program} {md : Region.Mode} {ops : Array Oper} {Q : Exit → Act → World → Prop} {S : World → Prop} {v : Value} {oi : Oper} {fuel : Nat} {listed : Array Bool} {a : Act} {w : World}
/-- An operation that yields in every world that meets S is taken first; its slot by name. -/
theorem hTake (i : Nat) (d : Option Tmp) (hi : ops[i]? = some oi) (hd : oi.dst = d) (hs : Region.noSelect ops = true) (hf : Region.free md ops listed i = true) (hr : (Region.ready md ops listed).contains i = true)
    (hQ : ∀ c a w, Q (.panic c) (a.put d v) w → Q (.panic c) a w) (hw : Region.wanted oi (yielded ops a.tmps) = true) (hy : ∀ w, S w → (execOp a.eval oi).run P w = .ok (.value v) w) (hS : S w)
    (h : wpAnyH P md ops Q S fuel (listed.setIfInBounds i true) (a.put d v) w) : wpAnyH P md ops Q S (fuel + 1) listed a w := by
  subst hd
  exact wpAnyH_take hi hs hf hr hQ (Or.inl ⟨hw, hy⟩) hS h
/-- One that is not wanted. -/
theorem hSkip (i : Nat) (d : Option Tmp) (hi : ops[i]? = some oi) (hd : oi.dst = d) (hs : Region.noSelect ops = true) (hf : Region.free md ops listed i = true) (hr : (Region.ready md ops listed).contains i = true)
    (hQ : ∀ c a w, Q (.panic c) (a.put d undef) w → Q (.panic c) a w) (hw : Region.wanted oi (yielded ops a.tmps) = false) (hS : S w)
    (h : wpAnyH P md ops Q S fuel (listed.setIfInBounds i true) (a.put d undef) w) : wpAnyH P md ops Q S (fuel + 1) listed a w := by
  subst hd
  exact wpAnyH_take hi hs hf hr hQ (Or.inr ⟨hw, rfl⟩) hS h
end
end Go.Proofs.YtnobknmhffaoeaaGreatDoor
