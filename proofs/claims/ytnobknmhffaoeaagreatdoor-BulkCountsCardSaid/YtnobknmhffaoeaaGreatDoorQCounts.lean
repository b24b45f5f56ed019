/- law33.BulkCounts: the law answers true. -/
import Derived.Test.YtnobknmhffaoeaaGreatDoorQAwake
import Derived.Test.YtnobknmhffaoeaaGreatDoorQRefC
set_option linter.unusedVariables false
set_option linter.unusedSimpArgs false
namespace Go.Proofs.YtnobknmhffaoeaaGreatDoor
open Go.RowKit
section
variable (w : World)
set_option maxRecDepth 100000 in
set_option maxHeartbeats 4000000 in
theorem bulk_counts_true {N : Nat} (hs : SortU32 N) (hN1 : 12 ≤ N) (hN2 : N ≤ 100000) (c : Cfg) (n per : Int) (t : Obj) (ht : TabO t) (H : HC w (tabB t)) :
    Calls Tryz.prog 4 #[c.v, .int .i64 n, .int .i64 per] w fun e w' => e = .returned (.bool true) ∧ St w (FP w (tabB t)) w' (tabB t) := by
  have S0 := H.st
  generalize FP w (tabB t) = F at *
  have haw := Lib.hid (fun w H => awake_ok w hs hN1 hN2 t ht H)
  have hrt := Lib.hid (fun w => r33_right w c n per)
  by_cases hR : RightA c n per
  · rw [decide_eq_true hR] at hrt
    obtain ⟨q, hqc, hq⟩ := Cfg.nat c hR.1
    subst hqc
    obtain ⟨_, r2, r3, r4, r5⟩ := hR
    obtain ⟨n, rfl⟩ : ∃ m : Nat, n = m := ⟨n.toNat, by omega⟩
    obtain ⟨per, rfl⟩ : ∃ m : Nat, per = m := ⟨per.toNat, by omega⟩
    have r5' : per ≤ q.leaf := by have : ((per : Int) ≤ (q.leaf : Int)) := r5; omega
    have hcn := Lib.hid (fun w => r33_count q hq n per (by omega) (by omega) w)
    have hbl := Lib.hid (fun w => bulk_blocksB q hq n per (by omega) (by omega) r5' w)
    have hhe := Lib.hid (fun w => bulk_heightB q hq n per (by omega) (by omega) r5' w)
    generalize 1 + (rowsFrom q.fan (max 1 (upN n per))).sum = bn at *
    generalize (rowsFrom q.fan (max 1 (upN n per))).length = hn at *
    clear hs ht H hN1 hN2 hq r2 r3 r4 r5 r5'
    unfold Cfg.v
    go_enter Tryz.func4, Tryz.ntmps4
    go_wp2_with (refine wpl_box S0 rfl _ _ rfl _ rfl ?_)
    intro g w1 hgw S1
    replace S1 : St w F w1 ([(g, cfgO q)] ++ tabB t) := S1.cast (by first | rfl | (rw [← cfg_cells]; rfl))
    have Fx : Hid (∀ wr, St w F wr ([(g, cfgO q)] ++ tabB t) → (wr.cell? ⟨g, 0, none⟩ = some (.int .i64 (q.blocks : Nat)) ∧ wr.cell? ⟨g, 1, none⟩ = some (.int .i64 (q.bytes : Nat)) ∧ wr.cell? ⟨g, 2, none⟩ = some (.int .i64 (q.frames : Nat)) ∧ wr.cell? ⟨g, 3, none⟩ = some (.int .i64 (q.fan : Nat)) ∧
       wr.cell? ⟨g, 4, none⟩ = some (.int .i64 (q.buffer : Nat)) ∧ wr.cell? ⟨g, 5, none⟩ = some (.int .i64 (q.leaf : Nat)) ∧ wr.cell? ⟨g, 6, none⟩ = some (.int .i64 (q.key : Nat)) ∧ wr.cell? ⟨g, 7, none⟩ = some (.int .i64 (q.val : Nat)))) :=
      fun wr S => ⟨S.cell 0 rfl 0 rfl, S.cell 0 rfl 1 rfl, S.cell 0 rfl 2 rfl, S.cell 0 rfl 3 rfl, S.cell 0 rfl 4 rfl, S.cell 0 rfl 5 rfl, S.cell 0 rfl 6 rfl, S.cell 0 rfl 7 rfl⟩
    obtain ⟨f0, f1, f2, f3, f4, f5, f6, f7⟩ := Fx.out w1 S1
    have hS1 := Lib.hid S1
    clear S0 S1
    have k1 : ((bn : Int) == (bn : Int)) = true := by simp
    have k2 : ((hn : Int) == (hn : Int)) = true := by simp
    go_wp2_with (go_at_call 6; refine (hrt.out _).mono ?_; rintro e w2 ⟨rfl, S2⟩; have hS2 := Lib.hid (hS1.out.pure S2); obtain ⟨f0, f1, f2, f3, f4, f5, f6, f7⟩ := Fx.out _ hS2.out; clear S2)
    go_wp2_with (go_at_call 14; refine (hcn.out _).mono ?_; rintro e w3 ⟨rfl, S3⟩; have hS3 := Lib.hid (hS2.out.pure S3); obtain ⟨f0, f1, f2, f3, f4, f5, f6, f7⟩ := Fx.out _ hS3.out; clear S3)
    go_wp2_with (first | (go_at_call 12; refine (hbl.out _).mono ?_; rintro e w4 ⟨rfl, S4⟩; have hS4 := Lib.hid (hS3.out.pure S4); obtain ⟨f0, f1, f2, f3, f4, f5, f6, f7⟩ := Fx.out _ hS4.out; clear S4) | (go_at_call 13; refine (hhe.out _).mono ?_; rintro e w5 ⟨rfl, S5⟩; have S6 := St.swap (A := [_]) (B := tabB t) (hS4.out.pure S5); have haw1 := Lib.hid (haw.out _ S6.hc.left); have hS6 := Lib.hid S6; clear S5 S6) | (go_at_call 8; refine haw1.out.mono ?_; rintro e w7 ⟨rfl, S7⟩; have hS8 := Lib.hid (hS6.out.call S7); clear S7))
    go_ret
    exact ⟨rfl, St.left (B := [_]) hS8.out⟩
  · rw [decide_eq_false hR] at hrt
    have hbl := Lib.hid (fun w => bulk_blocks_no c n per w hR)
    have hhe := Lib.hid (fun w => bulk_height_no c n per w hR)
    clear hs ht H hN1 hN2 hR
    obtain ⟨blocks, bytes, frames, fan, buffer, leaf, key, val⟩ := c
    unfold Cfg.v Cfg.cells at hrt hbl hhe ⊢
    dsimp only at *
    go_enter Tryz.func4, Tryz.ntmps4
    go_wp2_with (refine wpl_box S0 rfl _ _ rfl _ rfl ?_)
    intro g w1 hg S1
    replace S1 : St w F w1 ([(g, C 23 [.int .i64 blocks, .int .i64 bytes, .int .i64 frames, .int .i64 fan, .int .i64 buffer, .int .i64 leaf, .int .i64 key, .int .i64 val])] ++ tabB t) := S1
    have Fx : Hid (∀ wr, St w F wr ([(g, C 23 [.int .i64 blocks, .int .i64 bytes, .int .i64 frames, .int .i64 fan, .int .i64 buffer, .int .i64 leaf, .int .i64 key, .int .i64 val])] ++ tabB t) → (wr.cell? ⟨g, 0, none⟩ = some (.int .i64 blocks) ∧ wr.cell? ⟨g, 1, none⟩ = some (.int .i64 bytes) ∧ wr.cell? ⟨g, 2, none⟩ = some (.int .i64 frames) ∧ wr.cell? ⟨g, 3, none⟩ = some (.int .i64 fan) ∧
       wr.cell? ⟨g, 4, none⟩ = some (.int .i64 buffer) ∧ wr.cell? ⟨g, 5, none⟩ = some (.int .i64 leaf) ∧ wr.cell? ⟨g, 6, none⟩ = some (.int .i64 key) ∧ wr.cell? ⟨g, 7, none⟩ = some (.int .i64 val))) :=
      fun wr S => ⟨S.cell 0 rfl 0 rfl, S.cell 0 rfl 1 rfl, S.cell 0 rfl 2 rfl, S.cell 0 rfl 3 rfl, S.cell 0 rfl 4 rfl, S.cell 0 rfl 5 rfl, S.cell 0 rfl 6 rfl, S.cell 0 rfl 7 rfl⟩
    obtain ⟨f0, f1, f2, f3, f4, f5, f6, f7⟩ := Fx.out w1 S1
    have hS1 := Lib.hid S1
    clear S0 S1
    go_wp2_with (go_at_call 6; refine (hrt.out _).mono ?_; rintro e w2 ⟨rfl, S2⟩; have hS3 := Lib.hid (hS1.out.pure S2); obtain ⟨f0, f1, f2, f3, f4, f5, f6, f7⟩ := Fx.out _ hS3.out; clear S2)
    go_wp2_with (first | (go_at_call 12; refine (hbl.out _).mono ?_; rintro e w4 ⟨rfl, S4⟩; have hS4 := Lib.hid (hS3.out.pure S4); obtain ⟨f0, f1, f2, f3, f4, f5, f6, f7⟩ := Fx.out _ hS4.out; clear S4) | (go_at_call 13; refine (hhe.out _).mono ?_; rintro e w5 ⟨rfl, S5⟩; have S6 := St.swap (A := [_]) (B := tabB t) (hS4.out.pure S5); have haw1 := Lib.hid (haw.out _ S6.hc.left); have hS6 := Lib.hid S6; clear S5 S6) | (go_at_call 8; refine haw1.out.mono ?_; rintro e w7 ⟨rfl, S7⟩; have hS8 := Lib.hid (hS6.out.call S7); clear S7))
    go_ret
    exact ⟨rfl, St.left (B := [_]) hS8.out⟩
end
end Go.Proofs.YtnobknmhffaoeaaGreatDoor
