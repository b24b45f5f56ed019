/- The references on settings: ref09. The references on settings: ref09.Inner and Outer. -/
import Derived.Test.YtnobknmhffaoeaaGreatDoorQConf
set_option linter.unusedVariables false
set_option linter.unusedSimpArgs false
namespace Go.Proofs.YtnobknmhffaoeaaGreatDoor
open Go.RowKit
def inB (n lo hi : Int) : Bool := decide (lo ≤ n ∧ n ≤ hi)
theorem inB_yes {n lo hi : Int} (h : lo ≤ n ∧ n ≤ hi) : inB n lo hi = true := decide_eq_true h
theorem inB_no {n lo hi : Int} (h : ¬ (lo ≤ n ∧ n ≤ hi)) : inB n lo hi = false := decide_eq_false h
section
variable (w : World)
set_option maxHeartbeats 1000000 in
theorem r9_in (n lo hi : Int) : Calls Tryz.prog 34 #[.int .i64 n, .int .i64 lo, .int .i64 hi] w fun e w' => e = .returned (.bool (inB n lo hi)) ∧ w = w' := by
  have hy : Hid (lo ≤ n ∧ n ≤ hi → inB n lo hi = true) := inB_yes
  have hn : Hid (¬ (lo ≤ n ∧ n ≤ hi) → inB n lo hi = false) := inB_no
  generalize inB n lo hi = r at *
  by_cases h1 : lo ≤ n
  · by_cases h2 : n ≤ hi
    · go_enter Tryz.func34, Tryz.ntmps34
      go_wp2
      go_ret
      exact ⟨ret_bool (hy.out ⟨h1, h2⟩).symm, rfl⟩
    · go_enter Tryz.func34, Tryz.ntmps34
      go_wp2
      go_ret
      exact ⟨ret_bool (hn.out (by omega)).symm, rfl⟩
  · go_enter Tryz.func34, Tryz.ntmps34
    go_wp2
    go_ret
    exact ⟨ret_bool (hn.out (by omega)).symm, rfl⟩
variable (c : Cfg)
set_option maxHeartbeats 4000000 in
theorem r9_sized : Calls Tryz.prog 33 #[c.v] w fun e w' => e = .returned (.bool c.sized) ∧ St w (FP w []) w' [] := by
  have hy : Hid (c.Sized → c.sized = true) := by show _ → _; intro h; exact decide_eq_true h
  have hn : Hid (¬ c.Sized → c.sized = false) := by show _ → _; intro h; exact decide_eq_false h
  have hin := Lib.hid (fun w n lo hi => r9_in w n lo hi)
  generalize c.sized = sz at *
  obtain ⟨blocks, bytes, frames, fan, buffer, leaf, key, val⟩ := c
  unfold Cfg.Sized at hy hn
  unfold Cfg.v Cfg.cells
  dsimp only at *
  go_enter Tryz.func33, Tryz.ntmps33
  go_wp2_with (refine wpl_box (St.nil w) rfl _ _ rfl _ rfl ?_)
  intro g w1 hg S1
  replace S1 : St w _ w1 [(g, C 23 [.int .i64 blocks, .int .i64 bytes, .int .i64 frames, .int .i64 fan, .int .i64 buffer, .int .i64 leaf, .int .i64 key, .int .i64 val])] := S1
  have c3 := S1.cell 0 rfl 3 rfl
  have c4 := S1.cell 0 rfl 4 rfl
  have c5 := S1.cell 0 rfl 5 rfl
  have c6 := S1.cell 0 rfl 6 rfl
  have c7 := S1.cell 0 rfl 7 rfl
  replace S1 := S1.right (A := [_])
  have hS1 := Lib.hid S1
  clear S1
  by_cases h1 : 8 ≤ fan ∧ fan ≤ 64
  case neg =>
    have k1 := inB_no h1
    have k1' := Lib.hid h1
    clear h1
    go_wp2_with (go_at_call 34; refine (hin.out _ _ _ _).mono ?_; rintro e w' ⟨rfl, rfl⟩)
    go_ret
    exact ⟨ret_bool (hn.out (by have := k1'.out; omega)).symm, hS1.out⟩
  have k1 := inB_yes h1
  have hw : IntKind.i64.wrap (2 * fan) = 2 * fan := IntWalk.i64_in _ (by omega)
  replace h1 := Lib.hid h1
  by_cases h2 : 1 ≤ key ∧ key ≤ 64
  case neg =>
    have k2 := inB_no h2
    replace h2 := Lib.hid h2
    go_wp2_with (go_at_call 34; refine (hin.out _ _ _ _).mono ?_; rintro e w' ⟨rfl, rfl⟩)
    go_ret
    exact ⟨ret_bool (hn.out (by have := h2.out; omega)).symm, hS1.out⟩
  have k2 := inB_yes h2
  replace h2 := Lib.hid h2
  by_cases h3 : 0 ≤ val ∧ val ≤ 256
  case neg =>
    have k3 := inB_no h3
    replace h3 := Lib.hid h3
    go_wp2_with (go_at_call 34; refine (hin.out _ _ _ _).mono ?_; rintro e w' ⟨rfl, rfl⟩)
    go_ret
    exact ⟨ret_bool (hn.out (by have := h3.out; omega)).symm, hS1.out⟩
  have k3 := inB_yes h3
  replace h3 := Lib.hid h3
  by_cases h4 : 2 * fan ≤ buffer ∧ buffer ≤ 512
  case neg =>
    have k4 := inB_no h4
    replace h4 := Lib.hid h4
    go_wp2_with (go_at_call 34; refine (hin.out _ _ _ _).mono ?_; rintro e w' ⟨rfl, rfl⟩)
    go_ret
    exact ⟨ret_bool (hn.out (by have := h4.out; omega)).symm, hS1.out⟩
  have k4 := inB_yes h4
  replace h4 := Lib.hid h4
  by_cases h5 : buffer ≤ leaf ∧ leaf ≤ 1024
  · have k5 := inB_yes h5
    replace h5 := Lib.hid h5
    go_wp2_with (go_at_call 34; refine (hin.out _ _ _ _).mono ?_; rintro e w' ⟨rfl, rfl⟩)
    go_ret
    exact ⟨ret_bool (hy.out (by have := h1.out; have := h2.out; have := h3.out; have := h4.out; have := h5.out; omega)).symm, hS1.out⟩
  · have k5 := inB_no h5
    replace h5 := Lib.hid h5
    go_wp2_with (go_at_call 34; refine (hin.out _ _ _ _).mono ?_; rintro e w' ⟨rfl, rfl⟩)
    go_ret
    exact ⟨ret_bool (hn.out (by have := h5.out; omega)).symm, hS1.out⟩
end
end Go.Proofs.YtnobknmhffaoeaaGreatDoor
namespace Go.Proofs.YtnobknmhffaoeaaGreatDoor
open Go.RowKit
section
variable (w : World) (c : Cfg)
set_option maxHeartbeats 4000000 in
theorem r9_outer : Calls Tryz.prog 36 #[c.v] w fun e w' => e = .returned (.int .i64 c.outer) ∧ St w (FP w []) w' [] := by
  have hs := Lib.hid (fun w => r9_sized w c)
  have hy : Hid (c.sized = true → c.Sized ∧ c.outer = 8 + c.leaf * (3 + c.key + c.val)) := by
    show _ → _; intro h; unfold Cfg.sized at h; have h := of_decide_eq_true h; unfold Cfg.outer; rw [if_pos h]; exact ⟨h, rfl⟩
  have hn : Hid (c.sized = false → c.outer = 0) := by show _ → _; intro h; unfold Cfg.sized at h; have h := of_decide_eq_false h; unfold Cfg.outer; rw [if_neg h]
  generalize c.outer = res at *
  generalize c.sized = sz at *
  obtain ⟨blocks, bytes, frames, fan, buffer, leaf, key, val⟩ := c
  unfold Cfg.Sized at hy
  unfold Cfg.v Cfg.cells at hs ⊢
  dsimp only at *
  go_enter Tryz.func36, Tryz.ntmps36
  go_wp2_with (refine wpl_box (St.nil w) rfl _ _ rfl _ rfl ?_)
  intro g w1 hg S1
  replace S1 : St w _ w1 [(g, C 23 [.int .i64 blocks, .int .i64 bytes, .int .i64 frames, .int .i64 fan, .int .i64 buffer, .int .i64 leaf, .int .i64 key, .int .i64 val])] := S1
  have f0 := S1.cell 0 rfl 0 rfl
  have f1 := S1.cell 0 rfl 1 rfl
  have f2 := S1.cell 0 rfl 2 rfl
  have f3 := S1.cell 0 rfl 3 rfl
  have f4 := S1.cell 0 rfl 4 rfl
  have f5 := S1.cell 0 rfl 5 rfl
  have f6 := S1.cell 0 rfl 6 rfl
  have f7 := S1.cell 0 rfl 7 rfl
  have hS1 := Lib.hid S1
  have hs1 := Lib.hid (hs.out w1)
  clear S1 hs
  go_wp2_with (go_at_call 33; refine hs1.out.mono ?_)
  rintro e w2 ⟨rfl, S2⟩
  have S3 := hS1.out.pure S2
  have f5 := S3.cell 0 rfl 5 rfl
  have f6 := S3.cell 0 rfl 6 rfl
  have f7 := S3.cell 0 rfl 7 rfl
  have hS3 := Lib.hid (S3.right (A := [_]))
  clear S2 S3 hS1 hs1 f0 f1 f2 f3 f4
  cases sz with
  | false =>
    have hn' := Lib.hid (hn.out rfl)
    go_wp2
    go_ret
    exact ⟨ret_int hn'.out.symm, hS3.out⟩
  | true =>
    obtain ⟨hz, hr⟩ := hy.out rfl
    obtain ⟨lf, rfl⟩ : ∃ n : Nat, leaf = n := ⟨leaf.toNat, by omega⟩
    obtain ⟨kk, rfl⟩ : ∃ n : Nat, key = n := ⟨key.toNat, by omega⟩
    obtain ⟨vv, rfl⟩ : ∃ n : Nat, val = n := ⟨val.toNat, by omega⟩
    have b1 : lf ≤ 1024 := by omega
    have b2 : kk ≤ 64 := by omega
    have b3 : vv ≤ 256 := by omega
    have hr' : Hid (res = ((8 + lf * (3 + kk + vv) : Nat) : Int)) := by show _ = _; rw [hr]; push_cast; rfl
    have hstep : Hid (∀ i, i < lf → 8 + (i + 1) * (3 + kk + vv) = 8 + i * (3 + kk + vv) + 3 + kk + vv ∧ 8 + i * (3 + kk + vv) ≤ 400000) := by
      show ∀ i, _ → _
      intro i hi
      have := Nat.mul_le_mul (show i ≤ 1024 by omega) (show 3 + kk + vv ≤ 323 by omega)
      rw [Nat.add_mul, Nat.one_mul]; omega
    have h0 : Hid (8 + 0 * (3 + kk + vv) = 8) := by show _ = _; omega
    clear hy hn hz hr
    go_wp2
    go_loopw [3, 4] (fun nv iv wr => ∃ i n : Nat, iv = .int .i64 i ∧ i ≤ lf ∧ nv = .int .i64 n ∧ Hid (n = 8 + i * (3 + kk + vv)) ∧ wr = w2) (fun _ iv _ => lf - (intOf iv).toNat)
    case atStart => exact ⟨0, 8, rfl, by omega, rfl, h0.out.symm, rfl⟩
    case round =>
      obtain ⟨i, n, rfl, hi, rfl, hn, rfl⟩ := hrel
      by_cases hlt : i < lf
      · obtain ⟨s1, s2⟩ := hstep.out i hlt
        rw [← hn.out] at s1 s2
        replace s1 := Lib.hid s1
        have q1 : (i : Int) < (lf : Int) := by omega
        have q2 : IntKind.i64.wrap ((i : Int) + 1) = ((i + 1 : Nat) : Int) := by rw [IntWalk.i64_in _ (by omega)]; omega
        have q3 : IntKind.i64.wrap ((n : Int) + 3) = (n : Int) + 3 := IntWalk.i64_in _ (by omega)
        have q4 : IntKind.i64.wrap ((n : Int) + 3 + kk) = (n : Int) + 3 + kk := IntWalk.i64_in _ (by omega)
        have q5 : IntKind.i64.wrap ((n : Int) + 3 + kk + vv) = ((n + 3 + kk + vv : Nat) : Int) := by rw [IntWalk.i64_in _ (by omega)]; omega
        go_wp2
        go_roundw
        case rel => exact ⟨i + 1, _, by simp, by omega, rfl, s1.out.symm, trivial⟩
        case measure => simp [intOf]; omega
      · have hil : i = lf := by omega
        subst hil
        have q1 : ¬ (i : Int) < (i : Int) := by omega
        go_wp2
        go_ret
        exact ⟨ret_int (by rw [hn.out, hr'.out]), hS3.out⟩
set_option maxHeartbeats 4000000 in
theorem r9_inner : Calls Tryz.prog 35 #[c.v] w fun e w' => e = .returned (.int .i64 c.inner) ∧ St w (FP w []) w' [] := by
  have hs := Lib.hid (fun w => r9_sized w c)
  have hy : Hid (c.sized = true → c.Sized ∧ c.inner = 8 + 4 * c.fan + (c.fan - 1) * (1 + c.key) + c.buffer * (4 + c.key + c.val)) := by
    show _ → _; intro h; unfold Cfg.sized at h; have h := of_decide_eq_true h; unfold Cfg.inner; rw [if_pos h]; exact ⟨h, rfl⟩
  have hn : Hid (c.sized = false → c.inner = 0) := by show _ → _; intro h; unfold Cfg.sized at h; have h := of_decide_eq_false h; unfold Cfg.inner; rw [if_neg h]
  generalize c.inner = res at *
  generalize c.sized = sz at *
  obtain ⟨blocks, bytes, frames, fan, buffer, leaf, key, val⟩ := c
  unfold Cfg.Sized at hy
  unfold Cfg.v Cfg.cells at hs ⊢
  dsimp only at *
  go_enter Tryz.func35, Tryz.ntmps35
  go_wp2_with (refine wpl_box (St.nil w) rfl _ _ rfl _ rfl ?_)
  intro g w1 hg S1
  replace S1 : St w _ w1 [(g, C 23 [.int .i64 blocks, .int .i64 bytes, .int .i64 frames, .int .i64 fan, .int .i64 buffer, .int .i64 leaf, .int .i64 key, .int .i64 val])] := S1
  have f0 := S1.cell 0 rfl 0 rfl
  have f1 := S1.cell 0 rfl 1 rfl
  have f2 := S1.cell 0 rfl 2 rfl
  have f3 := S1.cell 0 rfl 3 rfl
  have f4 := S1.cell 0 rfl 4 rfl
  have f5 := S1.cell 0 rfl 5 rfl
  have f6 := S1.cell 0 rfl 6 rfl
  have f7 := S1.cell 0 rfl 7 rfl
  have hS1 := Lib.hid S1
  have hs1 := Lib.hid (hs.out w1)
  clear S1 hs
  go_wp2_with (go_at_call 33; refine hs1.out.mono ?_)
  rintro e w2 ⟨rfl, S2⟩
  have S3 := hS1.out.pure S2
  have f3 := S3.cell 0 rfl 3 rfl
  have f4 := S3.cell 0 rfl 4 rfl
  have f6 := S3.cell 0 rfl 6 rfl
  have f7 := S3.cell 0 rfl 7 rfl
  have hS3 := Lib.hid (S3.right (A := [_]))
  clear S2 S3 hS1 hs1 f0 f1 f2 f5
  cases sz with
  | false =>
    have hn' := Lib.hid (hn.out rfl)
    go_wp2
    go_ret
    exact ⟨ret_int hn'.out.symm, hS3.out⟩
  | true =>
    obtain ⟨hz, hr⟩ := hy.out rfl
    obtain ⟨ff, rfl⟩ : ∃ n : Nat, fan = n := ⟨fan.toNat, by omega⟩
    obtain ⟨bf, rfl⟩ : ∃ n : Nat, buffer = n := ⟨buffer.toNat, by omega⟩
    obtain ⟨kk, rfl⟩ : ∃ n : Nat, key = n := ⟨key.toNat, by omega⟩
    obtain ⟨vv, rfl⟩ : ∃ n : Nat, val = n := ⟨val.toNat, by omega⟩
    have b1 : ff ≤ 64 := by omega
    have b2 : kk ≤ 64 := by omega
    have b3 : vv ≤ 256 := by omega
    have b4 : bf ≤ 512 := by omega
    have hr' : Hid (res = ((8 + 4 * ff + (ff - 1) * (1 + kk) + bf * (4 + kk + vv) : Nat) : Int)) := by
      show _ = _
      rw [hr]
      obtain ⟨m, hm⟩ : ∃ m, ff = m + 1 := ⟨ff - 1, by omega⟩
      subst hm
      simp only [Nat.add_sub_cancel]
      push_cast
      rw [show ((m : Int) + 1 - 1) = (m : Int) by omega]
    have hstep : Hid (∀ i, i < ff → 0 < i → 8 + 4 * (i + 1) + (i + 1 - 1) * (1 + kk) = 8 + 4 * i + (i - 1) * (1 + kk) + 4 + 1 + kk ∧ 8 + 4 * i + (i - 1) * (1 + kk) ≤ 400000) := by
      show ∀ i, _ → _
      intro i hi h0
      obtain ⟨m, rfl⟩ : ∃ m, i = m + 1 := ⟨i - 1, by omega⟩
      have := Nat.mul_le_mul (show m ≤ 64 by omega) (show 1 + kk ≤ 65 by omega)
      simp only [Nat.add_sub_cancel]
      rw [Nat.add_mul m 1, Nat.one_mul]; omega
    have hbase : Hid (8 + 4 * ff + (ff - 1) * (1 + kk) ≤ 5000) := by
      have := Nat.mul_le_mul (show ff - 1 ≤ 63 by omega) (show 1 + kk ≤ 65 by omega)
      show _ ≤ _; omega
    clear hy hn hz hr
    go_wp2
    go_loopw [3, 4] (fun nv iv wr => ∃ i n : Nat, iv = .int .i64 i ∧ i ≤ ff ∧ nv = .int .i64 n ∧ Hid (n = 8 + 4 * i + (i - 1) * (1 + kk)) ∧ wr = w2) (fun _ iv _ => ff - (intOf iv).toNat)
    case atStart => exact ⟨0, 8, rfl, by omega, rfl, Lib.hid (by omega), rfl⟩
    case round =>
      obtain ⟨i, n, rfl, hi, rfl, hn, rfl⟩ := hrel
      by_cases hlt : i < ff
      · have q1 : (i : Int) < (ff : Int) := by omega
        have q2 : IntKind.i64.wrap ((i : Int) + 1) = ((i + 1 : Nat) : Int) := by rw [IntWalk.i64_in _ (by omega)]; omega
        by_cases h0 : 0 < i
        · obtain ⟨s1, s2⟩ := hstep.out i hlt h0
          rw [← hn.out] at s1 s2
          replace s1 := Lib.hid s1
          have p1 : (0 : Int) < (i : Int) := by omega
          have q3 : IntKind.i64.wrap ((n : Int) + 4) = (n : Int) + 4 := IntWalk.i64_in _ (by omega)
          have q4 : IntKind.i64.wrap ((n : Int) + 4 + 1) = (n : Int) + 4 + 1 := IntWalk.i64_in _ (by omega)
          have q5 : IntKind.i64.wrap ((n : Int) + 4 + 1 + kk) = ((n + 4 + 1 + kk : Nat) : Int) := by rw [IntWalk.i64_in _ (by omega)]; omega
          go_wp2
          go_roundw
          case rel => exact ⟨i + 1, _, by simp, by omega, rfl, s1.out.symm, trivial⟩
          case measure => simp [intOf]; omega
        · have hi0 : i = 0 := by omega
          subst hi0
          have hn8 : n = 8 := by have := hn.out; omega
          subst hn8
          go_wp2
          go_roundw
          case rel => exact ⟨1, 12, rfl, by omega, rfl, Lib.hid (by omega), trivial⟩
          case measure => simp [intOf]; omega
      · have hil : i = ff := by omega
        subst hil
        have q1 : ¬ (i : Int) < (i : Int) := by omega
        obtain ⟨n0, hn0⟩ : ∃ n0, n0 = 8 + 4 * i + (i - 1) * (1 + kk) := ⟨_, rfl⟩
        have hb := hbase.out
        rw [← hn0] at hb hr'
        have hnn : n = n0 := by rw [hn0]; exact hn.out
        subst hnn
        have hstep2 : Hid (∀ j, j < bf → n + (j + 1) * (4 + kk + vv) = n + j * (4 + kk + vv) + 4 + kk + vv ∧ n + j * (4 + kk + vv) ≤ 400000) := by
          show ∀ j, _ → _
          intro j hj
          have := Nat.mul_le_mul (show j ≤ 512 by omega) (show 4 + kk + vv ≤ 324 by omega)
          rw [Nat.add_mul, Nat.one_mul]; omega
        clear hn0 hn hstep hbase
        go_wp2
        go_loopw [3, 5] (fun nv jv wr2 => ∃ j m : Nat, jv = .int .i64 j ∧ j ≤ bf ∧ nv = .int .i64 m ∧ Hid (m = n + j * (4 + kk + vv)) ∧ wr2 = wr) (fun _ jv _ => bf - (intOf jv).toNat)
        case atStart => exact ⟨0, n, rfl, by omega, rfl, Lib.hid (by omega), rfl⟩
        case round =>
          obtain ⟨j, m, rfl, hj, rfl, hm, rfl⟩ := hrel
          by_cases hlt : j < bf
          · obtain ⟨s1, s2⟩ := hstep2.out j hlt
            rw [← hm.out] at s1 s2
            replace s1 := Lib.hid s1
            have q1 : (j : Int) < (bf : Int) := by omega
            have q2 : IntKind.i64.wrap ((j : Int) + 1) = ((j + 1 : Nat) : Int) := by rw [IntWalk.i64_in _ (by omega)]; omega
            have q3 : IntKind.i64.wrap ((m : Int) + 4) = (m : Int) + 4 := IntWalk.i64_in _ (by omega)
            have q4 : IntKind.i64.wrap ((m : Int) + 4 + kk) = (m : Int) + 4 + kk := IntWalk.i64_in _ (by omega)
            have q5 : IntKind.i64.wrap ((m : Int) + 4 + kk + vv) = ((m + 4 + kk + vv : Nat) : Int) := by rw [IntWalk.i64_in _ (by omega)]; omega
            go_wp2
            go_roundw
            case rel => exact ⟨j + 1, _, by simp, by omega, rfl, s1.out.symm, trivial⟩
            case measure => simp [intOf]; omega
          · have hjl : j = bf := by omega
            subst hjl
            have q1 : ¬ (j : Int) < (j : Int) := by omega
            go_wp2
            go_ret
            exact ⟨ret_int (by rw [hm.out, hr'.out]), hS3.out⟩
end
end Go.Proofs.YtnobknmhffaoeaaGreatDoor
