/- bulk.rows. bulk.Blocks and bulk.Height. bulk.may, of pairs that may be laid. -/
import Derived.Test.YtnobknmhffaoeaaGreatDoorQShelf
import Derived.Test.YtnobknmhffaoeaaGreatDoorQChunk
import Derived.Test.YtnobknmhffaoeaaGreatDoorQAsk
set_option linter.unusedVariables false
set_option linter.unusedSimpArgs false
namespace Go.Proofs.YtnobknmhffaoeaaGreatDoor
open Go.RowKit
section
theorem rows_pre {fan m0 m : Nat} {pre : List Nat} (hf : 2 ≤ fan) (h : pre ++ rowsFrom fan m = rowsFrom fan m0) : pre.length ≤ m0 + 1 := by
  have h1 := rows_len fan hf m0
  rw [← h, List.length_append] at h1; omega
theorem wrap_div (a b : Nat) (h : a ≤ 1000000) : IntKind.i64.wrap ((a : Int) / (b : Int)) = ((a / b : Nat) : Int) := by
  have : a / b ≤ a := Nat.div_le_self _ _
  rw [show ((a : Int) / (b : Int)) = ((a / b : Nat) : Int) from rfl]
  generalize a / b = d at *
  exact IntWalk.i64_in _ (by omega)
set_option maxRecDepth 100000 in
set_option maxHeartbeats 2000000 in
theorem bulk_rows (q : Cn) (hq : q.Good) (n per : Nat) (hn : n ≤ 100000) (h1 : 1 ≤ per) (h2 : per ≤ q.leaf) (w : World) :
    Calls Tryz.prog 31 #[q.c.v, .int .i64 n, .int .i64 per] w fun e w' => ∃ v L, e = .returned v ∧ Own (eNat .i64) 3 v (rowsFrom q.fan (max 1 (upN n per))) L ∧ St w (FP w []) w' L := by
  have hf := hq.f1
  have hf2 := hq.f2
  have hl2 := hq.l2
  have hck := Lib.hid (fun w => conf_check q.c w)
  rw [q.check hq] at hck
  have k1 : decide ((n : Int) < 0) = false := by rw [decide_eq_false_iff_not]; omega
  have k2 : decide (1073741824 < (n : Int)) = false := by rw [decide_eq_false_iff_not]; omega
  have k3 : decide ((per : Int) < 1) = false := by rw [decide_eq_false_iff_not]; omega
  have k4 : decide ((q.leaf : Int) < (per : Int)) = false := by rw [decide_eq_false_iff_not]; omega
  have k4' : decide (q.leaf < per) = false := by rw [decide_eq_false_iff_not]; omega
  have k5 : ¬ ((per : Int) = 0) := by omega
  have k6 : IntKind.i64.wrap ((n : Int) + (per : Int)) = (n : Int) + per := IntWalk.i64_in _ (by omega)
  have k7 : IntKind.i64.wrap ((n : Int) + (per : Int) - 1) = (n : Int) + per - 1 := IntWalk.i64_in _ (by omega)
  have hdiv : ((n : Int) + (per : Int) - 1) / (per : Int) = ((upN n per : Nat) : Int) := by
    unfold upN
    rw [show ((n : Int) + (per : Int) - 1) = ((n + per - 1 : Nat) : Int) by omega]; rfl
  have hun : upN n per ≤ n := upN_le h1
  generalize upN n per = u at *
  have goal : ∀ m, m = max 1 u → u ≤ 1 ∧ m = 1 ∨ 1 < u ∧ m = u := by intro m hm; omega
  obtain ⟨m, hm⟩ : ∃ m, m = max 1 u := ⟨_, rfl⟩
  have hmm := goal m hm
  rw [← hm]
  have hm1 : 1 ≤ m := by omega
  have hm2 : m ≤ 100000 := by omega
  replace hmm := Lib.hid hmm
  clear goal hm
  have S0 := St.nil w
  clear hq
  unfold Cfg.v
  go_enter Tryz.func31, Tryz.ntmps31
  go_wp2_with (refine wpl_box S0 rfl _ _ rfl _ rfl ?_)
  intro g w1 hgw S1
  replace S1 : St w (FP w []) w1 [(g, cfgO q)] := S1.cast (by first | rfl | (rw [← cfg_cells]; rfl))
  have Fx : Hid (∀ wr R, St w (FP w []) wr ([(g, cfgO q)] ++ R) → (wr.cell? ⟨g, 0, none⟩ = some (.int .i64 (q.blocks : Nat)) ∧ wr.cell? ⟨g, 1, none⟩ = some (.int .i64 (q.bytes : Nat)) ∧ wr.cell? ⟨g, 2, none⟩ = some (.int .i64 (q.frames : Nat)) ∧ wr.cell? ⟨g, 3, none⟩ = some (.int .i64 (q.fan : Nat)) ∧
     wr.cell? ⟨g, 4, none⟩ = some (.int .i64 (q.buffer : Nat)) ∧ wr.cell? ⟨g, 5, none⟩ = some (.int .i64 (q.leaf : Nat)) ∧ wr.cell? ⟨g, 6, none⟩ = some (.int .i64 (q.key : Nat)) ∧ wr.cell? ⟨g, 7, none⟩ = some (.int .i64 (q.val : Nat)))) :=
    fun wr R S => ⟨S.cell 0 rfl 0 rfl, S.cell 0 rfl 1 rfl, S.cell 0 rfl 2 rfl, S.cell 0 rfl 3 rfl, S.cell 0 rfl 4 rfl, S.cell 0 rfl 5 rfl, S.cell 0 rfl 6 rfl, S.cell 0 rfl 7 rfl⟩
  obtain ⟨f0, f1, f2, f3, f4, f5, f6, f7⟩ := Fx.out w1 _ S1
  have hck1 := Lib.hid (hck.out w1)
  have hS1 := Lib.hid S1
  clear S0 S1
  go_wp2_with (go_at_call 37; refine hck1.out.mono ?_)
  rintro e w2 ⟨rfl, S2⟩
  have S3 := hS1.out.pure S2
  obtain ⟨f0, f1, f2, f3, f4, f5, f6, f7⟩ := Fx.out w2 _ S3
  have hS3 := Lib.hid S3
  clear S2 S3 hS1 hck1
  have hS4 := Lib.hid (fun (m : Nat) => hS3.out.alloc (C 3 [.int .i64 m]))
  have hf' : 2 ≤ q.fan := by omega
  have hrm := Lib.hid (fun k (h : 1 < k) => rows_more (fan := q.fan) h hf')
  have hre := Lib.hid (fun k (h : ¬ 1 < k) => rows_end (fan := q.fan) h)
  have hlt := Lib.hid (fun k (h : 1 < k) => upN_lt (b := q.fan) h hf')
  have hps := Lib.hid (fun k (h : 1 ≤ k) => upN_pos (b := q.fan) h (by omega))
  have hpl := Lib.hid (fun k (pre : List Nat) h => rows_pre (m0 := m) (m := k) (pre := pre) hf' h)
  have hm2' := Lib.hid hm2
  rcases hmm.out with ⟨hu, hmu⟩ | ⟨hu, hmu⟩
  · have u1 : (u : Int) ≤ 1 := by omega
    have u2 : ¬ (1 < (u : Int)) := by omega
    replace hmu := Lib.hid hmu
    rcases (show u = 0 ∨ u = 1 by omega) with rfl | rfl
    all_goals go_wp2
    all_goals clear k1 k2 k3 k4 k4' k5 k6 k7 hdiv u1 u2 hu h1 h2 hn hun
    all_goals go_loopw [7, 8] (fun mv lv wr => ∃ (k : Nat) (pre : List Nat) (lv' : Value) (L : Blocks), mv = .int .i64 k ∧ lv = lv' ∧ 1 ≤ k ∧ k ≤ 100000 ∧ Hid (pre ++ rowsFrom q.fan k = rowsFrom q.fan m) ∧ Own (eNat .i64) 3 lv' (pre ++ [k]) L ∧ St w (FP w []) wr (L ++ [(g, cfgO q)])) (fun mv _ _ => (intOf mv).toNat)
    case atStart => exact ⟨1, [], _, _, rfl, rfl, by omega, by omega, Lib.hid (by rw [hmu.out]; rfl), .inr ⟨_, 1, [], rfl, rfl, by simp, by decide, rfl⟩, hS4.out 1⟩
    case atStart => exact ⟨1, [], _, _, rfl, rfl, by omega, by omega, Lib.hid (by rw [hmu.out]; rfl), .inr ⟨_, 1, [], rfl, rfl, by simp, by decide, rfl⟩, hS4.out 1⟩
    all_goals (
      obtain ⟨k, pre, lv', L, rfl, rfl, hk1, hk2, hpre, O, Sr⟩ := hrel
      have c3 : wr.cell? ⟨g, 3, none⟩ = some (.int .i64 (q.fan : Nat)) := (St.right (A := L) Sr).cell 0 rfl 3 rfl
      have hlen : Hid ((pre ++ [k]).length + 1 ≤ 2147483648 ∧ 8 ≤ 65536) := by
        have := hpl.out k pre hpre.out
        have := hm2'.out
        show _ ∧ _
        simp; omega
      have hv := O.one
      have hO := Lib.hid O
      have hSr := Lib.hid Sr
      clear O Sr
      by_cases hk : 1 < k
      · have j1 : (1 : Int) < (k : Int) := by omega
        have j4 : ¬ ((q.fan : Int) = 0) := by omega
        have j2 : IntKind.i64.wrap ((k : Int) + (q.fan : Int)) = (k : Int) + (q.fan : Int) := IntWalk.i64_in _ (by omega)
        have j3 : IntKind.i64.wrap ((k : Int) + (q.fan : Int) - 1) = (k : Int) + (q.fan : Int) - 1 := IntWalk.i64_in _ (by omega)
        have j5 : ((k : Int) + (q.fan : Int) - 1) / (q.fan : Int) = ((upN k q.fan : Nat) : Int) := by
          unfold upN
          rw [show ((k : Int) + (q.fan : Int) - 1) = ((k + q.fan - 1 : Nat) : Int) by omega]; rfl
        have hx1 := hlt.out k hk
        have hx2 := hps.out k hk1
        have hx3 := Lib.hid (hrm.out k hk)
        generalize upN k q.fan = k' at *
        have j6 : IntKind.i64.wrap (k' : Int) = (k' : Int) := IntWalk.i64_in _ (by omega)
        go_wp2_with (at_builtin; refine wpl_append1 (x := k') (hSr.out.alloc _) hO.out rfl _ _ 73 rfl _ 8 Tryz.underlying73 info_int rfl rfl rfl hlen.out ?_; intro v3 w3 A3 O3 S5)
        go_roundw
        case rel => exact ⟨k', pre ++ [k], v3, A3, rfl, rfl, hx2, (by omega), Lib.hid (by rw [← hpre.out, hx3.out]; simp), O3, S5⟩
        case measure => simp [intOf]; omega
      · have j1 : ¬ ((1 : Int) < (k : Int)) := by omega
        go_wp2
        go_ret
        refine ⟨_, rfl, L, ?_, St.left hSr.out⟩
        rw [← hpre.out, hre.out k hk]; exact hO.out)
  · have u1 : (1 : Int) ≤ (u : Int) := by omega
    have u2 : (1 < (u : Int)) := by omega
    have u3 : ¬ ((u : Int) < 1) := by omega
    have u4 : ¬ ((u : Int) ≤ 1) := by omega
    replace hmu := Lib.hid hmu
    go_wp2
    clear k1 k2 k3 k4 k4' k5 k6 k7 hdiv u1 u2 u3 u4 hu h1 h2 hn
    go_loopw [7, 8] (fun mv lv wr => ∃ (k : Nat) (pre : List Nat) (lv' : Value) (L : Blocks), mv = .int .i64 k ∧ lv = lv' ∧ 1 ≤ k ∧ k ≤ 100000 ∧ Hid (pre ++ rowsFrom q.fan k = rowsFrom q.fan m) ∧ Own (eNat .i64) 3 lv' (pre ++ [k]) L ∧ St w (FP w []) wr (L ++ [(g, cfgO q)])) (fun mv _ _ => (intOf mv).toNat)
    case atStart => exact ⟨u, [], _, _, rfl, rfl, (by have := hmu.out; omega), (by have := hmu.out; omega), Lib.hid (by rw [hmu.out]; rfl), .inr ⟨_, 1, [], rfl, rfl, by simp, by decide, rfl⟩, hS4.out u⟩
    all_goals (
      obtain ⟨k, pre, lv', L, rfl, rfl, hk1, hk2, hpre, O, Sr⟩ := hrel
      have c3 : wr.cell? ⟨g, 3, none⟩ = some (.int .i64 (q.fan : Nat)) := (St.right (A := L) Sr).cell 0 rfl 3 rfl
      have hlen : Hid ((pre ++ [k]).length + 1 ≤ 2147483648 ∧ 8 ≤ 65536) := by
        have := hpl.out k pre hpre.out
        have := hm2'.out
        show _ ∧ _
        simp; omega
      have hv := O.one
      have hO := Lib.hid O
      have hSr := Lib.hid Sr
      clear O Sr
      by_cases hk : 1 < k
      · have j1 : (1 : Int) < (k : Int) := by omega
        have j4 : ¬ ((q.fan : Int) = 0) := by omega
        have j2 : IntKind.i64.wrap ((k : Int) + (q.fan : Int)) = (k : Int) + (q.fan : Int) := IntWalk.i64_in _ (by omega)
        have j3 : IntKind.i64.wrap ((k : Int) + (q.fan : Int) - 1) = (k : Int) + (q.fan : Int) - 1 := IntWalk.i64_in _ (by omega)
        have j5 : ((k : Int) + (q.fan : Int) - 1) / (q.fan : Int) = ((upN k q.fan : Nat) : Int) := by
          unfold upN
          rw [show ((k : Int) + (q.fan : Int) - 1) = ((k + q.fan - 1 : Nat) : Int) by omega]; rfl
        have hx1 := hlt.out k hk
        have hx2 := hps.out k hk1
        have hx3 := Lib.hid (hrm.out k hk)
        generalize upN k q.fan = k' at *
        have j6 : IntKind.i64.wrap (k' : Int) = (k' : Int) := IntWalk.i64_in _ (by omega)
        go_wp2_with (at_builtin; refine wpl_append1 (x := k') (hSr.out.alloc _) hO.out rfl _ _ 73 rfl _ 8 Tryz.underlying73 info_int rfl rfl rfl hlen.out ?_; intro v3 w3 A3 O3 S5)
        go_roundw
        case rel => exact ⟨k', pre ++ [k], v3, A3, rfl, rfl, hx2, (by omega), Lib.hid (by rw [← hpre.out, hx3.out]; simp), O3, S5⟩
        case measure => simp [intOf]; omega
      · have j1 : ¬ ((1 : Int) < (k : Int)) := by omega
        go_wp2
        go_ret
        refine ⟨_, rfl, L, ?_, St.left hSr.out⟩
        rw [← hpre.out, hre.out k hk]; exact hO.out)
end
end Go.Proofs.YtnobknmhffaoeaaGreatDoor
namespace Go.Proofs.YtnobknmhffaoeaaGreatDoor
open Go.RowKit
section
theorem rows_ne (fan n : Nat) : 1 ≤ (rowsFrom fan n).length := by
  unfold rowsFrom
  split <;> simp
theorem sum_take {l : List Nat} {j x : Nat} (h : l[j]? = some x) : (l.take (j + 1)).sum = (l.take j).sum + x := by
  rw [List.take_add_one, h]; simp
theorem sum_take_le (l : List Nat) (j : Nat) : (l.take j).sum ≤ l.sum := by
  conv => rhs; rw [← List.take_append_drop j l, List.sum_append]
  omega
set_option maxRecDepth 100000 in
set_option maxHeartbeats 2000000 in
theorem bulk_height (q : Cn) (hq : q.Good) (n per : Nat) (hn : n ≤ 100000) (h1 : 1 ≤ per) (h2 : per ≤ q.leaf) (w : World) :
    Calls Tryz.prog 13 #[q.c.v, .int .i64 n, .int .i64 per] w fun e w' => e = .returned (.int .i64 ((rowsFrom q.fan (max 1 (upN n per))).length : Nat)) ∧ St w (FP w []) w' [] := by
  have hr := Lib.hid (fun w => bulk_rows q hq n per hn h1 h2 w)
  generalize rowsFrom q.fan (max 1 (upN n per)) = l at *
  have S0 := St.nil w
  clear hq
  unfold Cfg.v
  go_enter Tryz.func13, Tryz.ntmps13
  go_wp2_with (refine wpl_box S0 rfl _ _ rfl _ rfl ?_)
  intro g w1 hgw S1
  replace S1 : St w (FP w []) w1 [(g, cfgO q)] := S1.cast (by first | rfl | (rw [← cfg_cells]; rfl))
  have f0 : w1.cell? ⟨g, 0, none⟩ = some (.int .i64 (q.blocks : Nat)) := S1.cell 0 rfl 0 rfl
  have f1 : w1.cell? ⟨g, 1, none⟩ = some (.int .i64 (q.bytes : Nat)) := S1.cell 0 rfl 1 rfl
  have f2 : w1.cell? ⟨g, 2, none⟩ = some (.int .i64 (q.frames : Nat)) := S1.cell 0 rfl 2 rfl
  have f3 : w1.cell? ⟨g, 3, none⟩ = some (.int .i64 (q.fan : Nat)) := S1.cell 0 rfl 3 rfl
  have f4 : w1.cell? ⟨g, 4, none⟩ = some (.int .i64 (q.buffer : Nat)) := S1.cell 0 rfl 4 rfl
  have f5 : w1.cell? ⟨g, 5, none⟩ = some (.int .i64 (q.leaf : Nat)) := S1.cell 0 rfl 5 rfl
  have f6 : w1.cell? ⟨g, 6, none⟩ = some (.int .i64 (q.key : Nat)) := S1.cell 0 rfl 6 rfl
  have f7 : w1.cell? ⟨g, 7, none⟩ = some (.int .i64 (q.val : Nat)) := S1.cell 0 rfl 7 rfl
  have hr1 := Lib.hid (hr.out w1)
  have hS1 := Lib.hid S1
  clear S0 S1 hr
  go_wp2_with (go_at_call 31; refine hr1.out.mono ?_)
  rintro e w2 ⟨v, L, rfl, O, S2⟩
  have S3 := hS1.out.pure S2
  obtain ⟨B, cc, rfl, _, _⟩ := O.slice
  have hS3 := Lib.hid S3
  go_wp2
  go_ret
  exact ⟨rfl, (hS3.out.cast (List.nil_append _).symm).left⟩
set_option maxRecDepth 100000 in
set_option maxHeartbeats 2000000 in
theorem bulk_blocks (q : Cn) (hq : q.Good) (n per : Nat) (hn : n ≤ 100000) (h1 : 1 ≤ per) (h2 : per ≤ q.leaf) (w : World) :
    Calls Tryz.prog 12 #[q.c.v, .int .i64 n, .int .i64 per] w fun e w' => e = .returned (.int .i64 (1 + (rowsFrom q.fan (max 1 (upN n per))).sum : Nat)) ∧ St w (FP w []) w' [] := by
  have hr := Lib.hid (fun w => bulk_rows q hq n per hn h1 h2 w)
  have hf := hq.f1
  have hsum : (rowsFrom q.fan (max 1 (upN n per))).sum ≤ 1000000 := by
    have := (rows_sum q.fan (by omega) (max 1 (upN n per))).1
    have := upN_le (n := n) h1
    omega
  have hlen : (rowsFrom q.fan (max 1 (upN n per))).length ≤ 200000 := by
    have := rows_len q.fan (by omega) (max 1 (upN n per))
    have := upN_le (n := n) h1
    omega
  have hne := rows_ne q.fan (max 1 (upN n per))
  generalize rowsFrom q.fan (max 1 (upN n per)) = l at *
  have hsu := Lib.hid (fun j => sum_take_le l j)
  have hall : Hid ((l.take l.length).sum = l.sum) := by show _ = _; rw [List.take_length]
  have hget : Hid (∀ j, j < l.length → ∃ x, l[j]? = some x) := fun j h => ⟨_, List.getElem?_eq_getElem h⟩
  have hsl := Lib.hid (fun j x (h : l[j]? = some x) => sum_take h)
  obtain ⟨s, hs⟩ : ∃ s, l.sum = s := ⟨_, rfl⟩
  rw [hs] at hsum hsu hall ⊢
  clear hs
  obtain ⟨m, hm⟩ : ∃ m, l.length = m := ⟨_, rfl⟩
  rw [hm] at hlen hne hall hget
  replace hm := Lib.hid hm
  have S0 := St.nil w
  clear hq
  unfold Cfg.v
  go_enter Tryz.func12, Tryz.ntmps12
  go_wp2_with (refine wpl_box S0 rfl _ _ rfl _ rfl ?_)
  intro g w1 hgw S1
  replace S1 : St w (FP w []) w1 [(g, cfgO q)] := S1.cast (by first | rfl | (rw [← cfg_cells]; rfl))
  have f0 : w1.cell? ⟨g, 0, none⟩ = some (.int .i64 (q.blocks : Nat)) := S1.cell 0 rfl 0 rfl
  have f1 : w1.cell? ⟨g, 1, none⟩ = some (.int .i64 (q.bytes : Nat)) := S1.cell 0 rfl 1 rfl
  have f2 : w1.cell? ⟨g, 2, none⟩ = some (.int .i64 (q.frames : Nat)) := S1.cell 0 rfl 2 rfl
  have f3 : w1.cell? ⟨g, 3, none⟩ = some (.int .i64 (q.fan : Nat)) := S1.cell 0 rfl 3 rfl
  have f4 : w1.cell? ⟨g, 4, none⟩ = some (.int .i64 (q.buffer : Nat)) := S1.cell 0 rfl 4 rfl
  have f5 : w1.cell? ⟨g, 5, none⟩ = some (.int .i64 (q.leaf : Nat)) := S1.cell 0 rfl 5 rfl
  have f6 : w1.cell? ⟨g, 6, none⟩ = some (.int .i64 (q.key : Nat)) := S1.cell 0 rfl 6 rfl
  have f7 : w1.cell? ⟨g, 7, none⟩ = some (.int .i64 (q.val : Nat)) := S1.cell 0 rfl 7 rfl
  have hr1 := Lib.hid (hr.out w1)
  have hS1 := Lib.hid S1
  clear S0 S1 hr
  go_wp2_with (go_at_call 31; refine hr1.out.mono ?_)
  rintro e w2 ⟨v, L, rfl, O, S2⟩
  have S3 := hS1.out.pure S2
  have hrd := O.rd S2.hc
  obtain ⟨B, cc, rfl, _, _⟩ := O.slice
  rw [hm.out] at *
  have hS3 := Lib.hid ((hS1.out.pure S2).cast (List.nil_append _).symm).left
  have hrd' := Lib.hid (fun j x (h : l[j]? = some x) => hrd.get h)
  have hm0 : ((m : Int) == 0) = false := by rw [beq_eq_false_iff_ne]; omega
  clear S2 S3 hS1 hr1 hrd O f0 f1 f2 f3 f4 f5 f6 f7
  go_wp2
  clear hm0
  go_loopw [8, 10, 20] (fun sv _ jv wr => ∃ j : Nat, sv = .int .i64 (1 + (l.take j).sum : Nat) ∧ jv = .int .i64 j ∧ j ≤ m ∧ wr = w2) (fun _ _ jv _ => m - (intOf jv).toNat)
  case atStart => exact ⟨0, rfl, rfl, by omega, rfl⟩
  all_goals (
    obtain ⟨j, rfl, rfl, hj, rfl⟩ := hrel
    by_cases hlt : j < m
    · obtain ⟨x, hx⟩ := hget.out j hlt
      obtain ⟨b, off, rfl, hc⟩ := hrd'.out j x hx
      have c1 : wr.cell? ⟨b, off + j, none⟩ = some (.int .i64 x) := by have := hc 0 _ rfl; simpa [eNat] using this
      have t1 := hsl.out j x hx
      have t2 := hsu.out (j + 1)
      have t3 := Lib.hid t1
      rw [t1] at t2
      clear t1
      generalize (l.take j).sum = a at *
      have q1 : (j : Int) < (m : Int) := by omega
      have q2 : IntKind.i64.wrap ((j : Int) + 1) = ((j + 1 : Nat) : Int) := by rw [IntWalk.i64_in _ (by omega)]; omega
      have q3 : IntKind.i64.wrap (((1 + a : Nat) : Int) + (x : Int)) = ((1 + (a + x) : Nat) : Int) := by rw [IntWalk.i64_in _ (by omega)]; omega
      have q4 : IntKind.i64.wrap (1 + (a : Int) + (x : Int)) = ((1 + (a + x) : Nat) : Int) := by rw [IntWalk.i64_in _ (by omega)]; omega
      clear hx hc
      go_wp2
      go_roundw
      case rel => exact ⟨j + 1, by rw [t3.out]; simp, by simp, by omega, trivial⟩
      case measure => simp [intOf]; omega
    · have hjm : j = m := by omega
      subst hjm
      have q1 : ¬ (j : Int) < (j : Int) := by omega
      rw [hall.out]
      go_wp2
      go_ret
      first | exact ⟨rfl, hS3.out⟩ | exact ⟨trivial, hS3.out⟩)
end
end Go.Proofs.YtnobknmhffaoeaaGreatDoor
namespace Go.Proofs.YtnobknmhffaoeaaGreatDoor
open Go.RowKit
section
set_option maxRecDepth 100000 in
set_option maxHeartbeats 4000000 in
theorem bulk_may (q : Cn) (hq : q.Good) (w : World) (prv : Value) (l : List Pr) (hr : Rd ePr w prv l) (hl : l.length ≤ 100000) (hup : Rise (l.map Pr.key)) (he : ∀ p ∈ l, PairOk q.key q.val p) (per : Nat) (h1 : 1 ≤ per) (h2 : per ≤ q.leaf)
    (hb : 1 + (rowsFrom q.fan (max 1 (upN l.length per))).sum ≤ q.blocks) :
    Calls Tryz.prog 16 #[q.c.v, prv, .int .i64 per] w fun e w' => e = .returned (.int .i64 0) ∧ St w (FP w []) w' [] := by
  have S0 := St.nil w
  obtain ⟨B4, c4, rfl, _, _⟩ := hr.slice
  have hr' := Lib.hid hr
  have hrise : Hid (riseB (l.map Pr.key) = true) := (riseB_iff _).2 hup
  have hbad : Hid (l.any (pairBad q) = false) := any_bad he
  have hck := Lib.hid (fun w => conf_check q.c w)
  rw [q.check hq] at hck
  have hlr := Lib.hid (fun w hr => leaf_right w (.slice B4 l.length c4) l hr hl)
  have hct := Lib.hid (fun w hr g lb hp eg => contains_pair w (.slice B4 l.length c4) l hr hl g lb (pairBad q) hp eg)
  have hbk := Lib.hid (fun w => bulk_blocks q hq l.length per hl h1 h2 w)
  have eg : ∀ args w, (callFunc 40 args).run Tryz.prog w = .ok (.enter 40 args) w := enters_of Tryz.func40 (by kernel_rfl) rfl
  generalize 1 + (rowsFrom q.fan (max 1 (upN l.length per))).sum = t at *
  have p1 : decide (1073741824 < (l.length : Int)) = false := by rw [decide_eq_false_iff_not]; omega
  have p1' : decide (1073741824 < l.length) = false := by rw [decide_eq_false_iff_not]; omega
  have p2 : decide ((per : Int) < 1) = false := by rw [decide_eq_false_iff_not]; omega
  have p3 : decide ((q.leaf : Int) < (per : Int)) = false := by rw [decide_eq_false_iff_not]; omega
  have p3' : decide (q.leaf < per) = false := by rw [decide_eq_false_iff_not]; omega
  have p4 : decide ((q.blocks : Int) < (t : Int)) = false := by rw [decide_eq_false_iff_not]; omega
  have p4' : decide (q.blocks < t) = false := by rw [decide_eq_false_iff_not]; omega
  clear hr hup he hq h1 h2 hb hl
  generalize hn : l.length = n at *
  clear hn
  have mixed : Tryz.prog.follows .mixedOrders = true := by kernel_rfl
  unfold Cfg.v
  go_enter Tryz.func16, Tryz.ntmps16
  go_wp2_with (refine wpl_box S0 rfl _ _ rfl _ rfl ?_)
  intro g w1 _ S1
  replace S1 : St w (FP w []) w1 [(g, cfgO q)] := S1.cast (by first | rfl | rw [← cfg_cells]; rfl)
  have Fx : Hid (∀ wr, St w (FP w []) wr [(g, cfgO q)] → (wr.cell? ⟨g, 0, none⟩ = some (.int .i64 (q.blocks : Nat)) ∧ wr.cell? ⟨g, 1, none⟩ = some (.int .i64 (q.bytes : Nat)) ∧ wr.cell? ⟨g, 2, none⟩ = some (.int .i64 (q.frames : Nat)) ∧ wr.cell? ⟨g, 3, none⟩ = some (.int .i64 (q.fan : Nat)) ∧
     wr.cell? ⟨g, 4, none⟩ = some (.int .i64 (q.buffer : Nat)) ∧ wr.cell? ⟨g, 5, none⟩ = some (.int .i64 (q.leaf : Nat)) ∧ wr.cell? ⟨g, 6, none⟩ = some (.int .i64 (q.key : Nat)) ∧ wr.cell? ⟨g, 7, none⟩ = some (.int .i64 (q.val : Nat)))) :=
    fun wr S => ⟨S.cell 0 rfl 0 rfl, S.cell 0 rfl 1 rfl, S.cell 0 rfl 2 rfl, S.cell 0 rfl 3 rfl, S.cell 0 rfl 4 rfl, S.cell 0 rfl 5 rfl, S.cell 0 rfl 6 rfl, S.cell 0 rfl 7 rfl⟩
  obtain ⟨f0, f1, f2, f3, f4, f5, f6, f7⟩ := Fx.out w1 S1
  have hck1 := Lib.hid (hck.out w1)
  have hS1 := Lib.hid S1
  clear S0 S1
  go_wp2_with (go_at_call 37; refine hck1.out.mono ?_)
  rintro e w2 ⟨rfl, S2⟩
  have S3 := hS1.out.pure S2
  obtain ⟨f0, f1, f2, f3, f4, f5, f6, f7⟩ := Fx.out w2 S3
  have hS3 := Lib.hid S3
  clear S2 S3 hS1 hck1
  have hlr1 := Lib.hid (hlr.out w2 (hr'.out.st hS3.out))
  rw [hrise.out] at hlr1
  go_wp2_with (go_at_call 38; refine hlr1.out.mono ?_; rintro e w4 ⟨rfl, qq, rfl⟩)
  have hct1 := Lib.hid (hct.out (w2.drewN qq) ((hr'.out.st hS3.out).drewN qq) _ _ (ask_may _ q g (hS3.out.drewN qq).hc l) eg)
  rw [hbad.out] at hct1
  go_wp2_with (go_at_call 39; refine hct1.out.mono ?_; rintro e w5 ⟨rfl, S5⟩)
  have S6 := (hS3.out.drewN qq).pure S5
  obtain ⟨f0, f1, f2, f3, f4, f5, f6, f7⟩ := Fx.out w5 S6
  have hS6 := Lib.hid S6
  have hbk1 := Lib.hid (hbk.out w5.drew)
  have e0 : ∀ w6, St w5.drew (FP w5.drew []) w6 [] → w6.cell? ⟨g, 0, none⟩ = some (.int .i64 (q.blocks : Nat)) := fun w6 S => (Fx.out w6 (hS6.out.drew.pure S)).1
  replace e0 := Lib.hid e0
  clear S5 S6 hS3 hlr1 hct1 hlr hct
  go_wp2_with fail
  go_region_with (go_at_call 12; refine hbk1.out.mono ?_; rintro e w6 ⟨rfl, S7⟩; have c6 := e0.out w6 S7; have hS7 := Lib.hid S7; clear S7)
  all_goals go_wp2
  all_goals go_ret
  all_goals exact ⟨rfl, St.right (A := [_]) ((hS6.out.drew.pure hS7.out).cast (List.append_nil _).symm)⟩
end
end Go.Proofs.YtnobknmhffaoeaaGreatDoor
