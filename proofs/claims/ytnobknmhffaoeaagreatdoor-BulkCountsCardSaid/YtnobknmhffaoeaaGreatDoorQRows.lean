/- bulk.rows. bulk.Blocks and bulk.Height, of any number of pairs. bulk.rows, Blocks and Height, of numbers that may not be. -/
import Derived.Test.YtnobknmhffaoeaaGreatDoorQShelf
import Derived.Test.YtnobknmhffaoeaaGreatDoorQChunk
import Derived.Test.YtnobknmhffaoeaaGreatDoorQMay
set_option linter.unusedVariables false
set_option linter.unusedSimpArgs false
namespace Go.Proofs.YtnobknmhffaoeaaGreatDoor
open Go.RowKit
section
theorem rows_preB {fan m0 m : Nat} {pre : List Nat} (hf : 2 ≤ fan) (h : pre ++ rowsFrom fan m = rowsFrom fan m0) : pre.length ≤ m0 + 1 := by
  have h1 := rows_len fan hf m0
  rw [← h, List.length_append] at h1; omega
theorem wrap_divB (a b : Nat) (h : a ≤ 1000000) : IntKind.i64.wrap ((a : Int) / (b : Int)) = ((a / b : Nat) : Int) := by
  have : a / b ≤ a := Nat.div_le_self _ _
  rw [show ((a : Int) / (b : Int)) = ((a / b : Nat) : Int) from rfl]
  generalize a / b = d at *
  exact IntWalk.i64_in _ (by omega)
set_option maxRecDepth 100000 in
set_option maxHeartbeats 2000000 in
theorem bulk_rowsB (q : Cn) (hq : q.Good) (n per : Nat) (hn : n ≤ 1073741824) (h1 : 1 ≤ per) (h2 : per ≤ q.leaf) (w : World) :
    Calls Tryz.prog 31 #[q.c.v, .int .i64 n, .int .i64 per] w fun e w' => ∃ v L, e = .returned v ∧ Own (eNat .i64) 3 v (rowsFrom q.fan (max 1 (upN n per))) L ∧ St w (FP w []) w' L := by
  have hf := hq.f1
  have hf2 := hq.f2
  have hl2 := hq.l2
  have hck := Lib.hid (fun w => conf_check q.c w)
  rw [q.check hq] at hck
  have k1 : decide ((n : Int) < 0) = false := by rw [decide_eq_false_iff_not]; omega
  have k2 : decide (1073741824 < (n : Int)) = false := by rw [decide_eq_false_iff_not]; omega
  have k3 : decide ((per : Int) < 1) = false := by rw [decide_eq_false_iff_not]; omega
  have k4 : decide ((q.leaf : Int) < (per : Int)) = false := by rw [decide_eq_false_iff_not]; omega
  have k4' : decide (q.leaf < per) = false := by rw [decide_eq_false_iff_not]; omega
  have k5 : ¬ ((per : Int) = 0) := by omega
  have k6 : IntKind.i64.wrap ((n : Int) + (per : Int)) = (n : Int) + per := IntWalk.i64_in _ (by omega)
  have k7 : IntKind.i64.wrap ((n : Int) + (per : Int) - 1) = (n : Int) + per - 1 := IntWalk.i64_in _ (by omega)
  have hdiv : ((n : Int) + (per : Int) - 1) / (per : Int) = ((upN n per : Nat) : Int) := by
    unfold upN
    rw [show ((n : Int) + (per : Int) - 1) = ((n + per - 1 : Nat) : Int) by omega]; rfl
  have hun : upN n per ≤ n := upN_le h1
  have hdT : Hid (wrap64 (((n : Int) + (per : Int) - 1).tdiv (per : Int)) = ((upN n per : Nat) : Int)) := by
    show _ = _
    rw [Int.tdiv_eq_ediv_of_nonneg (by omega), hdiv]; exact IntWalk.wrap64_in _ (by omega)
  have hdW : Hid (wrap64 ((upN n per : Nat) : Int) = ((upN n per : Nat) : Int)) := IntWalk.wrap64_in _ (by omega)
  generalize upN n per = u at *
  have goal : ∀ m, m = max 1 u → u ≤ 1 ∧ m = 1 ∨ 1 < u ∧ m = u := by intro m hm; omega
  obtain ⟨m, hm⟩ : ∃ m, m = max 1 u := ⟨_, rfl⟩
  have hmm := goal m hm
  rw [← hm]
  have hm1 : 1 ≤ m := by omega
  have hm2 : Hid (m ≤ 1073741824) := by show _ ≤ _; omega
  replace hmm := Lib.hid hmm
  clear goal hm hn
  replace hun := Lib.hid hun
  have S0 := St.nil w
  clear hq
  unfold Cfg.v
  go_enter Tryz.func31, Tryz.ntmps31
  go_wp2_with (refine wpl_box S0 rfl _ _ rfl _ rfl ?_)
  intro g w1 hgw S1
  replace S1 : St w (FP w []) w1 [(g, cfgO q)] := S1.cast (by first | rfl | (rw [← cfg_cells]; rfl))
  have Fx : Hid (∀ wr R, St w (FP w []) wr ([(g, cfgO q)] ++ R) → (wr.cell? ⟨g, 0, none⟩ = some (.int .i64 (q.blocks : Nat)) ∧ wr.cell? ⟨g, 1, none⟩ = some (.int .i64 (q.bytes : Nat)) ∧ wr.cell? ⟨g, 2, none⟩ = some (.int .i64 (q.frames : Nat)) ∧ wr.cell? ⟨g, 3, none⟩ = some (.int .i64 (q.fan : Nat)) ∧
     wr.cell? ⟨g, 4, none⟩ = some (.int .i64 (q.buffer : Nat)) ∧ wr.cell? ⟨g, 5, none⟩ = some (.int .i64 (q.leaf : Nat)) ∧ wr.cell? ⟨g, 6, none⟩ = some (.int .i64 (q.key : Nat)) ∧ wr.cell? ⟨g, 7, none⟩ = some (.int .i64 (q.val : Nat)))) :=
    fun wr R S => ⟨S.cell 0 rfl 0 rfl, S.cell 0 rfl 1 rfl, S.cell 0 rfl 2 rfl, S.cell 0 rfl 3 rfl, S.cell 0 rfl 4 rfl, S.cell 0 rfl 5 rfl, S.cell 0 rfl 6 rfl, S.cell 0 rfl 7 rfl⟩
  obtain ⟨f0, f1, f2, f3, f4, f5, f6, f7⟩ := Fx.out w1 _ S1
  have hck1 := Lib.hid (hck.out w1)
  have hS1 := Lib.hid S1
  clear S0 S1
  go_wp2_with (go_at_call 37; refine hck1.out.mono ?_)
  rintro e w2 ⟨rfl, S2⟩
  have S3 := hS1.out.pure S2
  obtain ⟨f0, f1, f2, f3, f4, f5, f6, f7⟩ := Fx.out w2 _ S3
  have hS3 := Lib.hid S3
  clear S2 S3 hS1 hck1
  have hS4 := Lib.hid (fun (m : Nat) => hS3.out.alloc (C 3 [.int .i64 m]))
  have hf' : 2 ≤ q.fan := by omega
  have hrm := Lib.hid (fun k (h : 1 < k) => rows_more (fan := q.fan) h hf')
  have hre := Lib.hid (fun k (h : ¬ 1 < k) => rows_end (fan := q.fan) h)
  have hlt := Lib.hid (fun k (h : 1 < k) => upN_lt (b := q.fan) h hf')
  have hps := Lib.hid (fun k (h : 1 ≤ k) => upN_pos (b := q.fan) h (by omega))
  have hpl := Lib.hid (fun k (pre : List Nat) h => rows_preB (m0 := m) (m := k) (pre := pre) hf' h)
  have hm2' := hm2
  rcases hmm.out with ⟨hu, hmu⟩ | ⟨hu, hmu⟩
  · have u1 : (u : Int) ≤ 1 := by omega
    have u2 : ¬ (1 < (u : Int)) := by omega
    replace hmu := Lib.hid hmu
    rcases (show u = 0 ∨ u = 1 by omega) with rfl | rfl
    all_goals replace hdT := hdT.out
    all_goals replace hdW := hdW.out
    all_goals go_wp2
    all_goals clear k1 k2 k3 k4 k4' k5 k6 k7 hdiv hdT hdW u1 u2 hu h1 h2 hun
    all_goals go_loopw [7, 8] (fun mv lv wr => ∃ (k : Nat) (pre : List Nat) (lv' : Value) (L : Blocks), mv = .int .i64 k ∧ lv = lv' ∧ 1 ≤ k ∧ Hid (k ≤ 1073741824) ∧ Hid (pre ++ rowsFrom q.fan k = rowsFrom q.fan m) ∧ Own (eNat .i64) 3 lv' (pre ++ [k]) L ∧ St w (FP w []) wr (L ++ [(g, cfgO q)])) (fun mv _ _ => (intOf mv).toNat)
    case atStart => exact ⟨1, [], _, _, rfl, rfl, by omega, Lib.hid (by omega), Lib.hid (by rw [hmu.out]; rfl), .inr ⟨_, 1, [], rfl, rfl, by simp, by decide, rfl⟩, hS4.out 1⟩
    case atStart => exact ⟨1, [], _, _, rfl, rfl, by omega, Lib.hid (by omega), Lib.hid (by rw [hmu.out]; rfl), .inr ⟨_, 1, [], rfl, rfl, by simp, by decide, rfl⟩, hS4.out 1⟩
    all_goals (
      obtain ⟨k, pre, lv', L, rfl, rfl, hk1, hk2, hpre, O, Sr⟩ := hrel
      have c3 : wr.cell? ⟨g, 3, none⟩ = some (.int .i64 (q.fan : Nat)) := (St.right (A := L) Sr).cell 0 rfl 3 rfl
      have hlen : Hid ((pre ++ [k]).length + 1 ≤ 2147483648 ∧ 8 ≤ 65536) := by
        have := hpl.out k pre hpre.out
        have := hm2'.out
        show _ ∧ _
        simp; omega
      have hv := O.one
      have hO := Lib.hid O
      have hSr := Lib.hid Sr
      clear O Sr
      by_cases hk : 1 < k
      · have j1 : (1 : Int) < (k : Int) := by omega
        have j4 : ¬ ((q.fan : Int) = 0) := by omega
        have j2 : IntKind.i64.wrap ((k : Int) + (q.fan : Int)) = (k : Int) + (q.fan : Int) := IntWalk.i64_in _ (by have := hk2.out; omega)
        have j3 : IntKind.i64.wrap ((k : Int) + (q.fan : Int) - 1) = (k : Int) + (q.fan : Int) - 1 := IntWalk.i64_in _ (by have := hk2.out; omega)
        have j5 : ((k : Int) + (q.fan : Int) - 1) / (q.fan : Int) = ((upN k q.fan : Nat) : Int) := by
          unfold upN
          rw [show ((k : Int) + (q.fan : Int) - 1) = ((k + q.fan - 1 : Nat) : Int) by omega]; rfl
        have hx1 := hlt.out k hk
        have j6 : Hid (IntKind.i64.wrap ((upN k q.fan : Nat) : Int) = ((upN k q.fan : Nat) : Int)) := IntWalk.i64_in _ (by have := hk2.out; omega)
        have hk3 : Hid (upN k q.fan ≤ 1073741824) := by have := hk2.out; show _ ≤ _; omega
        have j8 : Hid (wrap64 ((upN k q.fan : Nat) : Int) = ((upN k q.fan : Nat) : Int)) := IntWalk.wrap64_in _ (by have := hk2.out; omega)
        have j7 : Hid (wrap64 (((k : Int) + (q.fan : Int) - 1).tdiv (q.fan : Int)) = ((upN k q.fan : Nat) : Int)) := by
          show _ = _
          rw [Int.tdiv_eq_ediv_of_nonneg (by omega), j5]; exact IntWalk.wrap64_in _ (by have := hk2.out; omega)
        have hx2 := hps.out k hk1
        have hx3 := Lib.hid (hrm.out k hk)
        generalize upN k q.fan = k' at *
        replace j6 := j6.out
        replace j7 := j7.out
        replace j8 := j8.out
        go_wp2_with (at_builtin; refine wpl_append1 (x := k') (hSr.out.alloc _) hO.out rfl _ _ 73 rfl _ 8 Tryz.underlying73 info_int rfl rfl rfl hlen.out ?_; intro v3 w3 A3 O3 S5)
        go_roundw
        case rel => exact ⟨k', pre ++ [k], v3, A3, rfl, rfl, hx2, hk3, Lib.hid (by rw [← hpre.out, hx3.out]; simp), O3, S5⟩
        case measure => clear j2 j3 j5 j6 j7 j8; simp [intOf]; omega
      · have j1 : ¬ ((1 : Int) < (k : Int)) := by omega
        go_wp2
        go_ret
        refine ⟨_, rfl, L, ?_, St.left hSr.out⟩
        rw [← hpre.out, hre.out k hk]; exact hO.out)
  · have u1 : (1 : Int) ≤ (u : Int) := by omega
    have u2 : (1 < (u : Int)) := by omega
    have u3 : ¬ ((u : Int) < 1) := by omega
    have u4 : ¬ ((u : Int) ≤ 1) := by omega
    replace hmu := Lib.hid hmu
    replace hdT := hdT.out
    replace hdW := hdW.out
    go_wp2
    clear k1 k2 k3 k4 k4' k5 k6 k7 hdiv hdT hdW u1 u2 u3 u4 hu h1 h2
    go_loopw [7, 8] (fun mv lv wr => ∃ (k : Nat) (pre : List Nat) (lv' : Value) (L : Blocks), mv = .int .i64 k ∧ lv = lv' ∧ 1 ≤ k ∧ Hid (k ≤ 1073741824) ∧ Hid (pre ++ rowsFrom q.fan k = rowsFrom q.fan m) ∧ Own (eNat .i64) 3 lv' (pre ++ [k]) L ∧ St w (FP w []) wr (L ++ [(g, cfgO q)])) (fun mv _ _ => (intOf mv).toNat)
    case atStart => exact ⟨u, [], _, _, rfl, rfl, (by have := hmu.out; omega), Lib.hid (by have := hmu.out; have := hm2'.out; omega), Lib.hid (by rw [hmu.out]; rfl), .inr ⟨_, 1, [], rfl, rfl, by simp, by decide, rfl⟩, hS4.out u⟩
    all_goals (
      obtain ⟨k, pre, lv', L, rfl, rfl, hk1, hk2, hpre, O, Sr⟩ := hrel
      have c3 : wr.cell? ⟨g, 3, none⟩ = some (.int .i64 (q.fan : Nat)) := (St.right (A := L) Sr).cell 0 rfl 3 rfl
      have hlen : Hid ((pre ++ [k]).length + 1 ≤ 2147483648 ∧ 8 ≤ 65536) := by
        have := hpl.out k pre hpre.out
        have := hm2'.out
        show _ ∧ _
        simp; omega
      have hv := O.one
      have hO := Lib.hid O
      have hSr := Lib.hid Sr
      clear O Sr
      by_cases hk : 1 < k
      · have j1 : (1 : Int) < (k : Int) := by omega
        have j4 : ¬ ((q.fan : Int) = 0) := by omega
        have j2 : IntKind.i64.wrap ((k : Int) + (q.fan : Int)) = (k : Int) + (q.fan : Int) := IntWalk.i64_in _ (by have := hk2.out; omega)
        have j3 : IntKind.i64.wrap ((k : Int) + (q.fan : Int) - 1) = (k : Int) + (q.fan : Int) - 1 := IntWalk.i64_in _ (by have := hk2.out; omega)
        have j5 : ((k : Int) + (q.fan : Int) - 1) / (q.fan : Int) = ((upN k q.fan : Nat) : Int) := by
          unfold upN
          rw [show ((k : Int) + (q.fan : Int) - 1) = ((k + q.fan - 1 : Nat) : Int) by omega]; rfl
        have hx1 := hlt.out k hk
        have j6 : Hid (IntKind.i64.wrap ((upN k q.fan : Nat) : Int) = ((upN k q.fan : Nat) : Int)) := IntWalk.i64_in _ (by have := hk2.out; omega)
        have hk3 : Hid (upN k q.fan ≤ 1073741824) := by have := hk2.out; show _ ≤ _; omega
        have j8 : Hid (wrap64 ((upN k q.fan : Nat) : Int) = ((upN k q.fan : Nat) : Int)) := IntWalk.wrap64_in _ (by have := hk2.out; omega)
        have j7 : Hid (wrap64 (((k : Int) + (q.fan : Int) - 1).tdiv (q.fan : Int)) = ((upN k q.fan : Nat) : Int)) := by
          show _ = _
          rw [Int.tdiv_eq_ediv_of_nonneg (by omega), j5]; exact IntWalk.wrap64_in _ (by have := hk2.out; omega)
        have hx2 := hps.out k hk1
        have hx3 := Lib.hid (hrm.out k hk)
        generalize upN k q.fan = k' at *
        replace j6 := j6.out
        replace j7 := j7.out
        replace j8 := j8.out
        go_wp2_with (at_builtin; refine wpl_append1 (x := k') (hSr.out.alloc _) hO.out rfl _ _ 73 rfl _ 8 Tryz.underlying73 info_int rfl rfl rfl hlen.out ?_; intro v3 w3 A3 O3 S5)
        go_roundw
        case rel => exact ⟨k', pre ++ [k], v3, A3, rfl, rfl, hx2, hk3, Lib.hid (by rw [← hpre.out, hx3.out]; simp), O3, S5⟩
        case measure => clear j2 j3 j5 j6 j7 j8; simp [intOf]; omega
      · have j1 : ¬ ((1 : Int) < (k : Int)) := by omega
        go_wp2
        go_ret
        refine ⟨_, rfl, L, ?_, St.left hSr.out⟩
        rw [← hpre.out, hre.out k hk]; exact hO.out)
end
end Go.Proofs.YtnobknmhffaoeaaGreatDoor
namespace Go.Proofs.YtnobknmhffaoeaaGreatDoor
open Go.RowKit
section
set_option maxRecDepth 100000 in
set_option maxHeartbeats 2000000 in
theorem bulk_heightB (q : Cn) (hq : q.Good) (n per : Nat) (hn : n ≤ 1073741824) (h1 : 1 ≤ per) (h2 : per ≤ q.leaf) (w : World) :
    Calls Tryz.prog 13 #[q.c.v, .int .i64 n, .int .i64 per] w fun e w' => e = .returned (.int .i64 ((rowsFrom q.fan (max 1 (upN n per))).length : Nat)) ∧ St w (FP w []) w' [] := by
  have hr := Lib.hid (fun w => bulk_rowsB q hq n per hn h1 h2 w)
  generalize rowsFrom q.fan (max 1 (upN n per)) = l at *
  have S0 := St.nil w
  clear hq hn
  unfold Cfg.v
  go_enter Tryz.func13, Tryz.ntmps13
  go_wp2_with (refine wpl_box S0 rfl _ _ rfl _ rfl ?_)
  intro g w1 hgw S1
  replace S1 : St w (FP w []) w1 [(g, cfgO q)] := S1.cast (by first | rfl | (rw [← cfg_cells]; rfl))
  have f0 : w1.cell? ⟨g, 0, none⟩ = some (.int .i64 (q.blocks : Nat)) := S1.cell 0 rfl 0 rfl
  have f1 : w1.cell? ⟨g, 1, none⟩ = some (.int .i64 (q.bytes : Nat)) := S1.cell 0 rfl 1 rfl
  have f2 : w1.cell? ⟨g, 2, none⟩ = some (.int .i64 (q.frames : Nat)) := S1.cell 0 rfl 2 rfl
  have f3 : w1.cell? ⟨g, 3, none⟩ = some (.int .i64 (q.fan : Nat)) := S1.cell 0 rfl 3 rfl
  have f4 : w1.cell? ⟨g, 4, none⟩ = some (.int .i64 (q.buffer : Nat)) := S1.cell 0 rfl 4 rfl
  have f5 : w1.cell? ⟨g, 5, none⟩ = some (.int .i64 (q.leaf : Nat)) := S1.cell 0 rfl 5 rfl
  have f6 : w1.cell? ⟨g, 6, none⟩ = some (.int .i64 (q.key : Nat)) := S1.cell 0 rfl 6 rfl
  have f7 : w1.cell? ⟨g, 7, none⟩ = some (.int .i64 (q.val : Nat)) := S1.cell 0 rfl 7 rfl
  have hr1 := Lib.hid (hr.out w1)
  have hS1 := Lib.hid S1
  clear S0 S1 hr
  go_wp2_with (go_at_call 31; refine hr1.out.mono ?_)
  rintro e w2 ⟨v, L, rfl, O, S2⟩
  have S3 := hS1.out.pure S2
  obtain ⟨B, cc, rfl, _, _⟩ := O.slice
  have hS3 := Lib.hid S3
  go_wp2
  go_ret
  exact ⟨rfl, (hS3.out.cast (List.nil_append _).symm).left⟩
set_option maxRecDepth 100000 in
set_option maxHeartbeats 2000000 in
theorem bulk_blocksB (q : Cn) (hq : q.Good) (n per : Nat) (hn : n ≤ 1073741824) (h1 : 1 ≤ per) (h2 : per ≤ q.leaf) (w : World) :
    Calls Tryz.prog 12 #[q.c.v, .int .i64 n, .int .i64 per] w fun e w' => e = .returned (.int .i64 (1 + (rowsFrom q.fan (max 1 (upN n per))).sum : Nat)) ∧ St w (FP w []) w' [] := by
  have hr := Lib.hid (fun w => bulk_rowsB q hq n per hn h1 h2 w)
  have hf := hq.f1
  have hsum : (rowsFrom q.fan (max 1 (upN n per))).sum ≤ 3221225474 := by
    have := (rows_sum q.fan (by omega) (max 1 (upN n per))).1
    have := upN_le (n := n) h1
    omega
  have hlen : (rowsFrom q.fan (max 1 (upN n per))).length ≤ 1073741826 := by
    have := rows_len q.fan (by omega) (max 1 (upN n per))
    have := upN_le (n := n) h1
    omega
  have hne := rows_ne q.fan (max 1 (upN n per))
  generalize rowsFrom q.fan (max 1 (upN n per)) = l at *
  have hsu := Lib.hid (fun j => sum_take_le l j)
  have hall : Hid ((l.take l.length).sum = l.sum) := by show _ = _; rw [List.take_length]
  have hget : Hid (∀ j, j < l.length → ∃ x, l[j]? = some x) := fun j h => ⟨_, List.getElem?_eq_getElem h⟩
  have hsl := Lib.hid (fun j x (h : l[j]? = some x) => sum_take h)
  obtain ⟨s, hs⟩ : ∃ s, l.sum = s := ⟨_, rfl⟩
  rw [hs] at hsum hsu hall ⊢
  clear hs
  obtain ⟨m, hm⟩ : ∃ m, l.length = m := ⟨_, rfl⟩
  rw [hm] at hlen hne hall hget
  replace hm := Lib.hid hm
  have S0 := St.nil w
  clear hq hn
  replace hsum := Lib.hid hsum
  replace hlen := Lib.hid hlen
  unfold Cfg.v
  go_enter Tryz.func12, Tryz.ntmps12
  go_wp2_with (refine wpl_box S0 rfl _ _ rfl _ rfl ?_)
  intro g w1 hgw S1
  replace S1 : St w (FP w []) w1 [(g, cfgO q)] := S1.cast (by first | rfl | (rw [← cfg_cells]; rfl))
  have f0 : w1.cell? ⟨g, 0, none⟩ = some (.int .i64 (q.blocks : Nat)) := S1.cell 0 rfl 0 rfl
  have f1 : w1.cell? ⟨g, 1, none⟩ = some (.int .i64 (q.bytes : Nat)) := S1.cell 0 rfl 1 rfl
  have f2 : w1.cell? ⟨g, 2, none⟩ = some (.int .i64 (q.frames : Nat)) := S1.cell 0 rfl 2 rfl
  have f3 : w1.cell? ⟨g, 3, none⟩ = some (.int .i64 (q.fan : Nat)) := S1.cell 0 rfl 3 rfl
  have f4 : w1.cell? ⟨g, 4, none⟩ = some (.int .i64 (q.buffer : Nat)) := S1.cell 0 rfl 4 rfl
  have f5 : w1.cell? ⟨g, 5, none⟩ = some (.int .i64 (q.leaf : Nat)) := S1.cell 0 rfl 5 rfl
  have f6 : w1.cell? ⟨g, 6, none⟩ = some (.int .i64 (q.key : Nat)) := S1.cell 0 rfl 6 rfl
  have f7 : w1.cell? ⟨g, 7, none⟩ = some (.int .i64 (q.val : Nat)) := S1.cell 0 rfl 7 rfl
  have hr1 := Lib.hid (hr.out w1)
  have hS1 := Lib.hid S1
  clear S0 S1 hr
  go_wp2_with (go_at_call 31; refine hr1.out.mono ?_)
  rintro e w2 ⟨v, L, rfl, O, S2⟩
  have S3 := hS1.out.pure S2
  have hrd := O.rd S2.hc
  obtain ⟨B, cc, rfl, _, _⟩ := O.slice
  rw [hm.out] at *
  have hS3 := Lib.hid ((hS1.out.pure S2).cast (List.nil_append _).symm).left
  have hrd' := Lib.hid (fun j x (h : l[j]? = some x) => hrd.get h)
  have hm0 : ((m : Int) == 0) = false := by rw [beq_eq_false_iff_ne]; omega
  clear S2 S3 hS1 hr1 hrd O f0 f1 f2 f3 f4 f5 f6 f7
  go_wp2
  clear hm0
  go_loopw [8, 10, 20] (fun sv _ jv wr => ∃ j : Nat, sv = .int .i64 (1 + (l.take j).sum : Nat) ∧ jv = .int .i64 j ∧ j ≤ m ∧ wr = w2) (fun _ _ jv _ => m - (intOf jv).toNat)
  case atStart => exact ⟨0, rfl, rfl, by omega, rfl⟩
  all_goals (
    obtain ⟨j, rfl, rfl, hj, rfl⟩ := hrel
    by_cases hlt : j < m
    · obtain ⟨x, hx⟩ := hget.out j hlt
      obtain ⟨b, off, rfl, hc⟩ := hrd'.out j x hx
      have c1 : wr.cell? ⟨b, off + j, none⟩ = some (.int .i64 x) := by have := hc 0 _ rfl; simpa [eNat] using this
      have t1 := hsl.out j x hx
      have t2 := hsu.out (j + 1)
      have t3 := Lib.hid t1
      rw [t1] at t2
      clear t1
      generalize (l.take j).sum = a at *
      have q1 : (j : Int) < (m : Int) := by omega
      have q2 : IntKind.i64.wrap ((j : Int) + 1) = ((j + 1 : Nat) : Int) := by rw [IntWalk.i64_in _ (by have := hlen.out; omega)]; omega
      have q3 : IntKind.i64.wrap (((1 + a : Nat) : Int) + (x : Int)) = ((1 + (a + x) : Nat) : Int) := by rw [IntWalk.i64_in _ (by have := hsum.out; omega)]; omega
      have q4 : IntKind.i64.wrap (1 + (a : Int) + (x : Int)) = ((1 + (a + x) : Nat) : Int) := by rw [IntWalk.i64_in _ (by have := hsum.out; omega)]; omega
      clear hx hc
      go_wp2
      go_roundw
      case rel => exact ⟨j + 1, by rw [t3.out]; simp, by simp, by omega, trivial⟩
      case measure => simp [intOf]; omega
    · have hjm : j = m := by omega
      subst hjm
      have q1 : ¬ (j : Int) < (j : Int) := by omega
      rw [hall.out]
      go_wp2
      go_ret
      first | exact ⟨rfl, hS3.out⟩ | exact ⟨trivial, hS3.out⟩)
end
end Go.Proofs.YtnobknmhffaoeaaGreatDoor
namespace Go.Proofs.YtnobknmhffaoeaaGreatDoor
open Go.RowKit
def RightA (c : Cfg) (n per : Int) : Prop := c.Ok ∧ 0 ≤ n ∧ n ≤ 1073741824 ∧ 1 ≤ per ∧ per ≤ c.leaf
instance (c : Cfg) (n per : Int) : Decidable (RightA c n per) := by unfold RightA; infer_instance
theorem check_yes {c : Cfg} (h : c.Ok) : c.check = 0 := by unfold Cfg.check; rw [if_pos h]
theorem check_no {c : Cfg} (h : ¬ c.Ok) : c.check = 2 := by unfold Cfg.check; rw [if_neg h]
section
variable (c : Cfg) (n per : Int) (w : World)
set_option maxRecDepth 100000 in
set_option maxHeartbeats 4000000 in
theorem bulk_rows_no (h : ¬ RightA c n per) : Calls Tryz.prog 31 #[c.v, .int .i64 n, .int .i64 per] w fun e w' => e = .returned (.slice none 0 0) ∧ St w (FP w []) w' [] := by
  have hck := Lib.hid (fun w => conf_check c w)
  have hy : Hid (c.Ok → c.check = 0) := check_yes
  have hn : Hid (¬ c.Ok → c.check = 2) := check_no
  have h' : Hid (¬ RightA c n per) := h
  have hlf : Hid (RightA c n per ↔ (c.Ok ∧ 0 ≤ n ∧ n ≤ 1073741824 ∧ 1 ≤ per ∧ per ≤ c.leaf)) := Iff.rfl
  clear h
  have hdec : Hid (c.Ok ∨ ¬ c.Ok) := Decidable.em _
  generalize c.Ok = ok at *
  generalize c.check = ck at *
  obtain ⟨blocks, bytes, frames, fan, buffer, leaf, key, val⟩ := c
  unfold Cfg.v Cfg.cells at hck ⊢
  dsimp only at *
  have S0 := St.nil w
  go_enter Tryz.func31, Tryz.ntmps31
  go_wp2_with (refine wpl_box S0 rfl _ _ rfl _ rfl ?_)
  intro g w1 hg S1
  replace S1 : St w _ w1 [(g, C 23 [.int .i64 blocks, .int .i64 bytes, .int .i64 frames, .int .i64 fan, .int .i64 buffer, .int .i64 leaf, .int .i64 key, .int .i64 val])] := S1
  have f0 := S1.cell 0 rfl 0 rfl
  have f1 := S1.cell 0 rfl 1 rfl
  have f2 := S1.cell 0 rfl 2 rfl
  have f3 := S1.cell 0 rfl 3 rfl
  have f4 := S1.cell 0 rfl 4 rfl
  have f5 := S1.cell 0 rfl 5 rfl
  have f6 := S1.cell 0 rfl 6 rfl
  have f7 := S1.cell 0 rfl 7 rfl
  have hS1 := Lib.hid S1
  have hck1 := Lib.hid (hck.out w1)
  clear S0 S1 hck
  rcases hdec.out with hok | hok
  · have hc0 := hy.out hok
    subst hc0
    by_cases h1 : n < 0
    · have k1 : decide (n < 0) = true := decide_eq_true h1
      clear h' hlf
      go_wp2_with (go_at_call 37; refine hck1.out.mono ?_; rintro e w2 ⟨rfl, S2⟩; have S3 := hS1.out.pure S2; have f5 := S3.cell 0 rfl 5 rfl; have hS3 := Lib.hid (S3.right (A := [_])); clear S2 S3)
      go_ret
      exact ⟨rfl, hS3.out⟩
    have k1 : decide (n < 0) = false := decide_eq_false h1
    by_cases h2 : 1073741824 < n
    · have k2 : decide (1073741824 < n) = true := decide_eq_true h2
      clear h' hlf
      go_wp2_with (go_at_call 37; refine hck1.out.mono ?_; rintro e w2 ⟨rfl, S2⟩; have S3 := hS1.out.pure S2; have f5 := S3.cell 0 rfl 5 rfl; have hS3 := Lib.hid (S3.right (A := [_])); clear S2 S3)
      go_ret
      exact ⟨rfl, hS3.out⟩
    have k2 : decide (1073741824 < n) = false := decide_eq_false h2
    by_cases h3 : per < 1
    · have k3 : decide (per < 1) = true := decide_eq_true h3
      clear h' hlf
      go_wp2_with (go_at_call 37; refine hck1.out.mono ?_; rintro e w2 ⟨rfl, S2⟩; have S3 := hS1.out.pure S2; have f5 := S3.cell 0 rfl 5 rfl; have hS3 := Lib.hid (S3.right (A := [_])); clear S2 S3)
      go_ret
      exact ⟨rfl, hS3.out⟩
    have k3 : decide (per < 1) = false := decide_eq_false h3
    by_cases h4 : leaf < per
    · have k4 : decide (leaf < per) = true := decide_eq_true h4
      clear h' hlf
      go_wp2_with (go_at_call 37; refine hck1.out.mono ?_; rintro e w2 ⟨rfl, S2⟩; have S3 := hS1.out.pure S2; have f5 := S3.cell 0 rfl 5 rfl; have hS3 := Lib.hid (S3.right (A := [_])); clear S2 S3)
      go_ret
      exact ⟨rfl, hS3.out⟩
    · exact absurd (hlf.out.2 ⟨hok, by omega, by omega, by omega, by omega⟩) h'.out
  · have hc0 := hn.out hok
    subst hc0
    clear h' hlf
    go_wp2_with (go_at_call 37; refine hck1.out.mono ?_; rintro e w2 ⟨rfl, S2⟩; have S3 := hS1.out.pure S2; have f5 := S3.cell 0 rfl 5 rfl; have hS3 := Lib.hid (S3.right (A := [_])); clear S2 S3)
    go_ret
    exact ⟨rfl, hS3.out⟩
set_option maxRecDepth 100000 in
set_option maxHeartbeats 1000000 in
theorem bulk_blocks_no (h : ¬ RightA c n per) : Calls Tryz.prog 12 #[c.v, .int .i64 n, .int .i64 per] w fun e w' => e = .returned (.int .i64 0) ∧ St w (FP w []) w' [] := by
  have hr := Lib.hid (fun w => bulk_rows_no c n per w h)
  clear h
  obtain ⟨blocks, bytes, frames, fan, buffer, leaf, key, val⟩ := c
  unfold Cfg.v Cfg.cells at hr ⊢
  dsimp only at *
  have S0 := St.nil w
  go_enter Tryz.func12, Tryz.ntmps12
  go_wp2_with (refine wpl_box S0 rfl _ _ rfl _ rfl ?_)
  intro g w1 hg S1
  replace S1 : St w _ w1 [(g, C 23 [.int .i64 blocks, .int .i64 bytes, .int .i64 frames, .int .i64 fan, .int .i64 buffer, .int .i64 leaf, .int .i64 key, .int .i64 val])] := S1
  have f0 := S1.cell 0 rfl 0 rfl
  have f1 := S1.cell 0 rfl 1 rfl
  have f2 := S1.cell 0 rfl 2 rfl
  have f3 := S1.cell 0 rfl 3 rfl
  have f4 := S1.cell 0 rfl 4 rfl
  have f5 := S1.cell 0 rfl 5 rfl
  have f6 := S1.cell 0 rfl 6 rfl
  have f7 := S1.cell 0 rfl 7 rfl
  have hS1 := Lib.hid (S1.right (A := [_]))
  have hr1 := Lib.hid (hr.out w1)
  clear S0 S1 hr
  go_wp2_with (go_at_call 31; refine hr1.out.mono ?_)
  rintro e w2 ⟨rfl, S2⟩
  have hS3 := Lib.hid (hS1.out.pure S2)
  clear S2
  go_wp2
  go_ret
  exact ⟨rfl, hS3.out⟩
set_option maxRecDepth 100000 in
set_option maxHeartbeats 1000000 in
theorem bulk_height_no (h : ¬ RightA c n per) : Calls Tryz.prog 13 #[c.v, .int .i64 n, .int .i64 per] w fun e w' => e = .returned (.int .i64 0) ∧ St w (FP w []) w' [] := by
  have hr := Lib.hid (fun w => bulk_rows_no c n per w h)
  clear h
  obtain ⟨blocks, bytes, frames, fan, buffer, leaf, key, val⟩ := c
  unfold Cfg.v Cfg.cells at hr ⊢
  dsimp only at *
  have S0 := St.nil w
  go_enter Tryz.func13, Tryz.ntmps13
  go_wp2_with (refine wpl_box S0 rfl _ _ rfl _ rfl ?_)
  intro g w1 hg S1
  replace S1 : St w _ w1 [(g, C 23 [.int .i64 blocks, .int .i64 bytes, .int .i64 frames, .int .i64 fan, .int .i64 buffer, .int .i64 leaf, .int .i64 key, .int .i64 val])] := S1
  have f0 := S1.cell 0 rfl 0 rfl
  have f1 := S1.cell 0 rfl 1 rfl
  have f2 := S1.cell 0 rfl 2 rfl
  have f3 := S1.cell 0 rfl 3 rfl
  have f4 := S1.cell 0 rfl 4 rfl
  have f5 := S1.cell 0 rfl 5 rfl
  have f6 := S1.cell 0 rfl 6 rfl
  have f7 := S1.cell 0 rfl 7 rfl
  have hS1 := Lib.hid (S1.right (A := [_]))
  have hr1 := Lib.hid (hr.out w1)
  clear S0 S1 hr
  go_wp2_with (go_at_call 31; refine hr1.out.mono ?_)
  rintro e w2 ⟨rfl, S2⟩
  have hS3 := Lib.hid (hS1.out.pure S2)
  clear S2
  go_wp2
  go_ret
  exact ⟨rfl, hS3.out⟩
end
end Go.Proofs.YtnobknmhffaoeaaGreatDoor
