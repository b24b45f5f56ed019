/- ref33: Right, up, Count. ref33.Count. -/
import Derived.Test.YtnobknmhffaoeaaGreatDoorQRefB
import Derived.Test.YtnobknmhffaoeaaGreatDoorQRows
set_option linter.unusedVariables false
set_option linter.unusedSimpArgs false
namespace Go.Proofs.YtnobknmhffaoeaaGreatDoor
open Go.RowKit
section
variable (w : World) (c : Cfg)
set_option maxRecDepth 100000 in
set_option maxHeartbeats 4000000 in
theorem r33_right (n per : Int) : Calls Tryz.prog 6 #[c.v, .int .i64 n, .int .i64 per] w fun e w' => e = .returned (.bool (decide (RightA c n per))) ∧ St w (FP w []) w' [] := by
  have hrt := Lib.hid (fun w => r9_right w c)
  have hlf : Hid (RightA c n per ↔ (rightB c = true ∧ 0 ≤ n ∧ n ≤ 1073741824 ∧ 1 ≤ per ∧ per ≤ c.leaf)) := by
    show _ ↔ _
    unfold RightA rightB
    rw [decide_eq_true_iff]
  have hy : Hid (RightA c n per → decide (RightA c n per) = true) := fun h => decide_eq_true h
  have hn : Hid (¬ RightA c n per → decide (RightA c n per) = false) := fun h => decide_eq_false h
  generalize decide (RightA c n per) = res at *
  generalize RightA c n per = ra at *
  generalize rightB c = rb at *
  obtain ⟨blocks, bytes, frames, fan, buffer, leaf, key, val⟩ := c
  unfold Cfg.v Cfg.cells at hrt ⊢
  dsimp only at *
  have S0 := St.nil w
  go_enter Tryz.func6, Tryz.ntmps6
  go_wp2_with (refine wpl_box S0 rfl _ _ rfl _ rfl ?_)
  intro g w1 hg S1
  replace S1 : St w _ w1 [(g, C 23 [.int .i64 blocks, .int .i64 bytes, .int .i64 frames, .int .i64 fan, .int .i64 buffer, .int .i64 leaf, .int .i64 key, .int .i64 val])] := S1
  have f0 := S1.cell 0 rfl 0 rfl
  have f1 := S1.cell 0 rfl 1 rfl
  have f2 := S1.cell 0 rfl 2 rfl
  have f3 := S1.cell 0 rfl 3 rfl
  have f4 := S1.cell 0 rfl 4 rfl
  have f5 := S1.cell 0 rfl 5 rfl
  have f6 := S1.cell 0 rfl 6 rfl
  have f7 := S1.cell 0 rfl 7 rfl
  have hS1 := Lib.hid S1
  have hrt1 := Lib.hid (hrt.out w1)
  clear S0 S1 hrt
  cases rb with
  | false =>
    go_wp2_with (go_at_call 15; refine hrt1.out.mono ?_; rintro e w2 ⟨rfl, S2⟩; have S3 := hS1.out.pure S2; have f5 := S3.cell 0 rfl 5 rfl; have hS3 := Lib.hid (S3.right (A := [_])); clear S2 S3)
    go_ret
    exact ⟨ret_bool (hn.out (fun h => Bool.false_ne_true (hlf.out.1 h).1)).symm, hS3.out⟩
  | true =>
    by_cases h1 : 0 ≤ n
    case neg =>
      have k1 : decide (0 ≤ n) = false := decide_eq_false h1
      replace h1 := Lib.hid h1
      go_wp2_with (go_at_call 15; refine hrt1.out.mono ?_; rintro e w2 ⟨rfl, S2⟩; have S3 := hS1.out.pure S2; have f5 := S3.cell 0 rfl 5 rfl; have hS3 := Lib.hid (S3.right (A := [_])); clear S2 S3)
      go_ret
      exact ⟨ret_bool (hn.out (fun h => Int.not_lt.2 (hlf.out.1 h).2.1 h1.out)).symm, hS3.out⟩
    have k1 : decide (0 ≤ n) = true := decide_eq_true h1
    replace h1 := Lib.hid h1
    by_cases h2 : n ≤ 1073741824
    case neg =>
      have k2 : decide (n ≤ 1073741824) = false := decide_eq_false h2
      replace h2 := Lib.hid h2
      go_wp2_with (go_at_call 15; refine hrt1.out.mono ?_; rintro e w2 ⟨rfl, S2⟩; have S3 := hS1.out.pure S2; have f5 := S3.cell 0 rfl 5 rfl; have hS3 := Lib.hid (S3.right (A := [_])); clear S2 S3)
      go_ret
      exact ⟨ret_bool (hn.out (fun h => Int.not_lt.2 (hlf.out.1 h).2.2.1 h2.out)).symm, hS3.out⟩
    have k2 : decide (n ≤ 1073741824) = true := decide_eq_true h2
    replace h2 := Lib.hid h2
    by_cases h3 : 1 ≤ per
    case neg =>
      have k3 : decide (1 ≤ per) = false := decide_eq_false h3
      replace h3 := Lib.hid h3
      go_wp2_with (go_at_call 15; refine hrt1.out.mono ?_; rintro e w2 ⟨rfl, S2⟩; have S3 := hS1.out.pure S2; have f5 := S3.cell 0 rfl 5 rfl; have hS3 := Lib.hid (S3.right (A := [_])); clear S2 S3)
      go_ret
      exact ⟨ret_bool (hn.out (fun h => Int.not_lt.2 (hlf.out.1 h).2.2.2.1 h3.out)).symm, hS3.out⟩
    have k3 : decide (1 ≤ per) = true := decide_eq_true h3
    replace h3 := Lib.hid h3
    by_cases h4 : per ≤ leaf
    case neg =>
      have k4 : decide (per ≤ leaf) = false := decide_eq_false h4
      replace h4 := Lib.hid h4
      go_wp2_with (go_at_call 15; refine hrt1.out.mono ?_; rintro e w2 ⟨rfl, S2⟩; have S3 := hS1.out.pure S2; have f5 := S3.cell 0 rfl 5 rfl; have hS3 := Lib.hid (S3.right (A := [_])); clear S2 S3)
      go_ret
      exact ⟨ret_bool (hn.out (fun h => Int.not_lt.2 (hlf.out.1 h).2.2.2.2 h4.out)).symm, hS3.out⟩
    have k4 : decide (per ≤ leaf) = true := decide_eq_true h4
    replace h4 := Lib.hid h4
    go_wp2_with (go_at_call 15; refine hrt1.out.mono ?_; rintro e w2 ⟨rfl, S2⟩; have S3 := hS1.out.pure S2; have f5 := S3.cell 0 rfl 5 rfl; have hS3 := Lib.hid (S3.right (A := [_])); clear S2 S3)
    go_ret
    exact ⟨ret_bool (hy.out (hlf.out.2 ⟨(by first | rfl | trivial), h1.out, h2.out, h3.out, h4.out⟩)).symm, hS3.out⟩
set_option maxRecDepth 100000 in
set_option maxHeartbeats 2000000 in
theorem r33_up (n b : Nat) (hb : 1 ≤ b) (hn : n ≤ 1073741824) : Calls Tryz.prog 32 #[.int .i64 n, .int .i64 b] w fun e w' => e = .returned (.int .i64 (upN n b : Nat)) ∧ w = w' := by
  have hup := Lib.hid (upN_mod n b hb)
  have hle : n / b ≤ n := Nat.div_le_self _ _
  have hml : n % b ≤ n := Nat.mod_le _ _
  have hb0 : ¬ ((b : Int) = 0) := by omega
  have w1 : ∀ d : Nat, d ≤ 1073741824 → (wrap64 (d : Int) = (d : Int) ∧ IntKind.i64.wrap ((d : Int) + 1) = (d : Int) + 1 ∧ wrap64 ((d : Int) + 1) = (d : Int) + 1) := fun d hd => ⟨IntWalk.wrap64_in _ (by omega), IntWalk.i64_in _ (by omega), IntWalk.wrap64_in _ (by omega)⟩
  have m0 := w1 (n / b) (by omega)
  have m4 := Lib.hid (w1 (n % b) (by omega)).1
  have m1 := Lib.hid m0.1
  have m2 := Lib.hid m0.2.1
  have m3 := Lib.hid m0.2.2
  have e1 : ((n : Int).tmod (b : Int)) = ((n % b : Nat) : Int) := by rw [Int.tmod_eq_emod_of_nonneg (by omega)]; rfl
  have e2 : ((n : Int).tdiv (b : Int)) = ((n / b : Nat) : Int) := by rw [Int.tdiv_eq_ediv_of_nonneg (by omega)]; rfl
  clear m0 w1
  have e1' : Hid (wrap64 ((n : Int).tmod (b : Int)) = ((n % b : Nat) : Int)) := by show _ = _; rw [e1]; exact m4.out
  have e2' : Hid (wrap64 ((n : Int).tdiv (b : Int)) = ((n / b : Nat) : Int)) := by show _ = _; rw [e2]; exact m1.out
  have e3 : Hid (((n : Int) % (b : Int)) = ((n % b : Nat) : Int)) := rfl
  have e4 : Hid (((n : Int) / (b : Int)) = ((n / b : Nat) : Int)) := rfl
  generalize upN n b = u at *
  have hz : Hid (n % b = 0 ∨ ¬ n % b = 0) := Decidable.em _
  have hbb : n % b = 0 → (((n % b : Nat) : Int) == 0) = true := by intro h; rw [h]; rfl
  have hbn : ¬ n % b = 0 → (((n % b : Nat) : Int) == 0) = false := by intro h; rw [beq_eq_false_iff_ne]; omega
  generalize n % b = r at *
  generalize n / b = d at *
  clear hn hb hle hml
  rcases hz.out with h0 | h0
  · have hu := hup.out
    rw [if_pos h0] at hu
    replace hu := Lib.hid hu
    have k := hbb h0
    subst h0
    replace e1' := e1'.out
    replace e2' := e2'.out
    replace e3 := e3.out
    replace e4 := e4.out
    replace m1 := m1.out
    replace m4 := m4.out
    clear hbb hbn
    go_enter Tryz.func32, Tryz.ntmps32
    go_wp2
    go_ret
    exact ⟨ret_int (by rw [hu.out]), rfl⟩
  · have hu := hup.out
    rw [if_neg h0] at hu
    replace hu := Lib.hid hu
    have k := hbn h0
    replace h0 := Lib.hid h0
    replace e1' := e1'.out
    replace e2' := e2'.out
    replace e3 := e3.out
    replace e4 := e4.out
    replace m1 := m1.out
    replace m4 := m4.out
    replace m2 := m2.out
    replace m3 := m3.out
    clear hbb hbn
    go_enter Tryz.func32, Tryz.ntmps32
    go_wp2
    go_ret
    exact ⟨ret_int (by rw [hu.out]; rfl), rfl⟩
end
end Go.Proofs.YtnobknmhffaoeaaGreatDoor
namespace Go.Proofs.YtnobknmhffaoeaaGreatDoor
open Go.RowKit
theorem rows_headB (fan n : Nat) : n ≤ (rowsFrom fan n).sum := by
  unfold rowsFrom
  split <;> simp
section
set_option maxRecDepth 100000 in
set_option maxHeartbeats 4000000 in
theorem r33_count (q : Cn) (hq : q.Good) (n per : Nat) (hn : n ≤ 1073741824) (h1 : 1 ≤ per) (w : World) :
    Calls Tryz.prog 14 #[q.c.v, .int .i64 n, .int .i64 per] w fun e w' => e = .returned (.tuple #[.int .i64 (1 + (rowsFrom q.fan (max 1 (upN n per))).sum : Nat), .int .i64 ((rowsFrom q.fan (max 1 (upN n per))).length : Nat)]) ∧ St w (FP w []) w' [] := by
  have hf := hq.f1
  have hup := Lib.hid (fun w n b hb hn => r33_up w n b hb hn)
  have hun : upN n per ≤ n := upN_le h1
  have hu1 := Lib.hid (hup.out w n per h1 hn)
  have hu1' := Lib.hid (fun w => hup.out w n per h1 hn)
  obtain ⟨m, hm⟩ : ∃ m, m = max 1 (upN n per) := ⟨_, rfl⟩
  have hmm : upN n per = 0 ∧ m = 1 ∨ ¬ upN n per = 0 ∧ m = upN n per := by omega
  have hm1 : 1 ≤ m := by omega
  have hm2 : Hid (m ≤ 1073741824) := by show _ ≤ _; omega
  have hz1 : upN n per = 0 → (((upN n per : Nat) : Int) == 0) = true := by intro h; rw [h]; rfl
  have hz2 : ¬ upN n per = 0 → (((upN n per : Nat) : Int) == 0) = false := by intro h; rw [beq_eq_false_iff_ne]; omega
  have hlim : (rowsFrom q.fan m).sum ≤ 3221225474 ∧ (rowsFrom q.fan m).length ≤ 1073741826 := by
    have h3 := (rows_sum q.fan (by omega) m).1
    have h4 := rows_len q.fan (by omega) m
    have := hm2.out
    omega
  replace hlim := Lib.hid hlim
  rw [← hm]
  generalize upN n per = u at *
  have hf' : 2 ≤ q.fan := by omega
  have hrm := Lib.hid (fun k (h : 1 < k) => rows_more (fan := q.fan) h hf')
  have hre := Lib.hid (fun k (h : ¬ 1 < k) => rows_end (fan := q.fan) h)
  have hlt := Lib.hid (fun k (h : 1 < k) => upN_lt (b := q.fan) h hf')
  have hps := Lib.hid (fun k (h : 1 ≤ k) => upN_pos (b := q.fan) h (by omega))
  replace hm := Lib.hid hm
  clear hq hn hun h1
  have S0 := St.nil w
  unfold Cfg.v
  go_enter Tryz.func14, Tryz.ntmps14
  go_wp2_with (refine wpl_box S0 rfl _ _ rfl _ rfl ?_)
  intro g w1 hgw S1
  replace S1 : St w (FP w []) w1 [(g, cfgO q)] := S1.cast (by first | rfl | (rw [← cfg_cells]; rfl))
  have f3 : w1.cell? ⟨g, 3, none⟩ = some (.int .i64 (q.fan : Nat)) := S1.cell 0 rfl 3 rfl
  have hS1 := Lib.hid (S1.right (A := [_]))
  have hu2 := Lib.hid (hu1'.out w1)
  clear S0 S1 hu1 hu1'
  have start : ∃ v, Hid (v = m) ∧ (∀ K : Prop, K → K) := ⟨m, Lib.hid rfl, fun _ h => h⟩
  clear start
  rcases hmm with ⟨hu, hmu⟩ | ⟨hu, hmu⟩
  · have k := hz1 hu
    subst hu
    subst hmu
    clear hz1 hz2
    go_wp2_with (go_at_call 32; refine hu2.out.mono ?_; rintro e w2 ⟨rfl, rfl⟩)
    go_loopw [8, 9, 10] (fun kv sv rv wr => ∃ (k : Nat) (pre : List Nat) (s r : Nat), kv = .int .i64 k ∧ sv = .int .i64 s ∧ rv = .int .i64 r ∧ 1 ≤ k ∧ Hid (k ≤ 1073741824 ∧ s = 1 + (pre ++ [k]).sum ∧ r = (pre ++ [k]).length ∧ pre ++ rowsFrom q.fan k = rowsFrom q.fan 1) ∧ wr = w1) (fun kv _ _ _ => (intOf kv).toNat)
    case atStart => exact ⟨1, [], 2, 1, rfl, rfl, rfl, by omega, ⟨by omega, rfl, rfl, rfl⟩, rfl⟩
    all_goals (
      obtain ⟨k, pre, s, r, rfl, rfl, rfl, hk1, hh, rfl⟩ := hrel
      by_cases hk : 1 < k
      · exfalso
        have h4 := hh.out.2.2.2
        have h5 := congrArg List.length h4
        rw [rows_end (fan := q.fan) (n := 1) (by omega), hrm.out k hk, List.length_append, List.length_cons] at h5
        have := rows_ne q.fan (upN k q.fan)
        simp at h5
        omega
      · have j1 : ¬ ((1 : Int) < (k : Int)) := by omega
        have h4 := hh.out.2.2.2
        rw [hre.out k hk] at h4
        have h5 : Hid (s = 1 + (rowsFrom q.fan 1).sum ∧ r = (rowsFrom q.fan 1).length) := by rw [← h4]; exact ⟨hh.out.2.1, hh.out.2.2.1⟩
        clear h4
        go_wp2
        go_ret2
        exact ⟨by rw [h5.out.1, h5.out.2]; rfl, hS1.out⟩)
  · have k := hz2 hu
    have hmu' := Lib.hid hmu
    replace hu := Lib.hid hu
    subst hmu
    clear hz1 hz2
    have t1 : IntKind.i64.wrap (1 + (m : Int)) = ((1 + m : Nat) : Int) := by rw [IntWalk.i64_in _ (by have := hm2.out; omega)]; omega
    go_wp2_with (go_at_call 32; refine hu2.out.mono ?_; rintro e w2 ⟨rfl, rfl⟩)
    clear t1
    go_loopw [8, 9, 10] (fun kv sv rv wr => ∃ (k : Nat) (pre : List Nat) (s r : Nat), kv = .int .i64 k ∧ sv = .int .i64 s ∧ rv = .int .i64 r ∧ 1 ≤ k ∧ Hid (k ≤ 1073741824 ∧ s = 1 + (pre ++ [k]).sum ∧ r = (pre ++ [k]).length ∧ pre ++ rowsFrom q.fan k = rowsFrom q.fan m) ∧ wr = w1) (fun kv _ _ _ => (intOf kv).toNat)
    case atStart => exact ⟨m, [], 1 + m, 1, rfl, by simp, rfl, hm1, ⟨hm2.out, by simp, rfl, rfl⟩, rfl⟩
    all_goals (
      obtain ⟨k, pre, s, r, rfl, rfl, rfl, hk1, hh, rfl⟩ := hrel
      by_cases hk : 1 < k
      · have j1 : (1 : Int) < (k : Int) := by omega
        have hu3 := Lib.hid (hup.out wr k q.fan (by omega) hh.out.1)
        have hx1 := hlt.out k hk
        have hx2 := hps.out k hk1
        have hx3 := Lib.hid (hrm.out k hk)
        have hh2 : Hid (upN k q.fan ≤ 1073741824 ∧ s + upN k q.fan = 1 + ((pre ++ [k]) ++ [upN k q.fan]).sum ∧ r + 1 = ((pre ++ [k]) ++ [upN k q.fan]).length ∧ (pre ++ [k]) ++ rowsFrom q.fan (upN k q.fan) = rowsFrom q.fan m ∧ s + upN k q.fan ≤ 3221225475 ∧ r + 1 ≤ 1073741827) := by
          obtain ⟨g1, g2, g3, g4⟩ := hh.out
          have e4 : (pre ++ [k]) ++ rowsFrom q.fan (upN k q.fan) = rowsFrom q.fan m := by rw [← g4, hx3.out]; simp
          have e5 := congrArg List.sum e4
          have e6 := congrArg List.length e4
          rw [List.sum_append] at e5
          rw [List.length_append] at e6
          have := rows_headB q.fan (upN k q.fan)
          have := rows_ne q.fan (upN k q.fan)
          obtain ⟨l1, l2⟩ := hlim.out
          refine ⟨by omega, ?_, ?_, e4, by omega, by omega⟩
          · rw [List.sum_append, g2]; simp; omega
          · rw [List.length_append, g3]; rfl
        generalize upN k q.fan = k' at *
        have j2 : IntKind.i64.wrap ((s : Int) + (k' : Int)) = ((s + k' : Nat) : Int) := by rw [IntWalk.i64_in _ (by have := hh2.out; omega)]; omega
        have j3 : IntKind.i64.wrap ((r : Int) + 1) = ((r + 1 : Nat) : Int) := by rw [IntWalk.i64_in _ (by have := hh2.out; omega)]; omega
        go_wp2_with (go_at_call 32; refine hu3.out.mono ?_; rintro e w2 ⟨rfl, rfl⟩)
        go_roundw
        case rel => exact ⟨k', pre ++ [k], s + k', r + 1, rfl, by simp, by simp, hx2, ⟨hh2.out.1, hh2.out.2.1, hh2.out.2.2.1, hh2.out.2.2.2.1⟩, trivial⟩
        case measure => clear j2 j3; simp [intOf]; omega
      · have j1 : ¬ ((1 : Int) < (k : Int)) := by omega
        have h4 := hh.out.2.2.2
        rw [hre.out k hk] at h4
        have h5 : Hid (s = 1 + (rowsFrom q.fan m).sum ∧ r = (rowsFrom q.fan m).length) := by rw [← h4]; exact ⟨hh.out.2.1, hh.out.2.2.1⟩
        clear h4
        go_wp2
        go_ret2
        exact ⟨by rw [h5.out.1, h5.out.2]; rfl, hS1.out⟩)
end
end Go.Proofs.YtnobknmhffaoeaaGreatDoor
