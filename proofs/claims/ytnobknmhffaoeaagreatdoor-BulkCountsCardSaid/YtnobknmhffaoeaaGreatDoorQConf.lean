/- conf: settings: what each call tells. conf, on: the least settings, and which settings are right. -/
import Derived.Test.YtnobknmhffaoeaaGreatDoorQBase
import Derived.Test.YtnobknmhffaoeaaGreatDoorProg
set_option linter.unusedVariables false
set_option linter.unusedSimpArgs false
namespace Go.Proofs.YtnobknmhffaoeaaGreatDoor
open Go.RowKit
/-- Settings. -/
structure Cfg where
  blocks : Int
  bytes : Int
  frames : Int
  fan : Int
  buffer : Int
  leaf : Int
  key : Int
  val : Int
deriving Inhabited, DecidableEq
def Cfg.cells (c : Cfg) : List Value := [.int .i64 c.blocks, .int .i64 c.bytes, .int .i64 c.frames, .int .i64 c.fan, .int .i64 c.buffer, .int .i64 c.leaf, .int .i64 c.key, .int .i64 c.val]
def Cfg.v (c : Cfg) : Value := .agg c.cells.toArray
def Cfg.Sized (c : Cfg) : Prop := 8 ≤ c.fan ∧ c.fan ≤ 64 ∧ 2 * c.fan ≤ c.buffer ∧ c.buffer ≤ 512 ∧ c.buffer ≤ c.leaf ∧ c.leaf ≤ 1024 ∧ 1 ≤ c.key ∧ c.key ≤ 64 ∧ 0 ≤ c.val ∧ c.val ≤ 256
instance (c : Cfg) : Decidable c.Sized := by unfold Cfg.Sized; infer_instance
def Cfg.sized (c : Cfg) : Bool := decide c.Sized
def Cfg.inner (c : Cfg) : Int := if c.Sized then 8 + 4 * c.fan + (c.fan - 1) * (1 + c.key) + c.buffer * (4 + c.key + c.val) else 0
def Cfg.outer (c : Cfg) : Int := if c.Sized then 8 + c.leaf * (3 + c.key + c.val) else 0
def Cfg.move (c : Cfg) : Int := if c.Sized then (c.buffer + 2 * c.fan - 1) / (2 * c.fan) else 0
def Cfg.least (c : Cfg) : Cfg := if c.Sized then { c with bytes := max 64 (max c.inner c.outer) } else c
def Cfg.Ok (c : Cfg) : Prop := c.Sized ∧ 5 ≤ c.blocks ∧ c.blocks ≤ 65536 ∧ 8 ≤ c.frames ∧ c.frames ≤ 64 ∧ c.bytes ≤ 65536 ∧ c.least.bytes ≤ c.bytes
instance (c : Cfg) : Decidable c.Ok := by unfold Cfg.Ok; infer_instance
/-- Numbers of the kind int. -/
def I64 (x : Int) : Prop := -9223372036854775808 ≤ x ∧ x ≤ 9223372036854775807
structure Cfg.In (c : Cfg) : Prop where
  blocks : I64 c.blocks
  bytes : I64 c.bytes
  frames : I64 c.frames
  fan : I64 c.fan
  buffer : I64 c.buffer
  leaf : I64 c.leaf
  key : I64 c.key
  val : I64 c.val
section
variable (c : Cfg) (w : World)
set_option maxHeartbeats 2000000 in
theorem conf_sized : Calls Tryz.prog 66 #[c.v] w fun e w' => e = .returned (.bool c.sized) ∧ St w (FP w []) w' [] := by
  have hy : Hid (c.Sized → c.sized = true) := by show _ → _; intro h; exact decide_eq_true h
  have hn : Hid (¬ c.Sized → c.sized = false) := by show _ → _; intro h; exact decide_eq_false h
  generalize c.sized = sz at *
  obtain ⟨blocks, bytes, frames, fan, buffer, leaf, key, val⟩ := c
  unfold Cfg.Sized at hy hn
  unfold Cfg.v Cfg.cells
  dsimp only at *
  go_enter Tryz.func66, Tryz.ntmps66
  go_wp2_with (refine wpl_box (St.nil w) rfl _ _ rfl _ rfl ?_)
  intro g w1 hg S1
  replace S1 : St w _ w1 [(g, C 23 [.int .i64 blocks, .int .i64 bytes, .int .i64 frames, .int .i64 fan, .int .i64 buffer, .int .i64 leaf, .int .i64 key, .int .i64 val])] := S1
  have c3 := S1.cell 0 rfl 3 rfl
  have c4 := S1.cell 0 rfl 4 rfl
  have c5 := S1.cell 0 rfl 5 rfl
  have c6 := S1.cell 0 rfl 6 rfl
  have c7 := S1.cell 0 rfl 7 rfl
  replace S1 := S1.right (A := [_])
  by_cases h1 : fan < 8
  · go_wp2
    go_ret
    exact ⟨ret_bool (hn.out (by omega)).symm, S1⟩
  by_cases h2 : 64 < fan
  · go_wp2
    go_ret
    exact ⟨ret_bool (hn.out (by omega)).symm, S1⟩
  have hw : IntKind.i64.wrap (2 * fan) = 2 * fan := IntWalk.i64_in _ (by omega)
  by_cases h3 : buffer < 2 * fan
  · go_wp2
    go_ret
    exact ⟨ret_bool (hn.out (by omega)).symm, S1⟩
  by_cases h4 : 512 < buffer
  · go_wp2
    go_ret
    exact ⟨ret_bool (hn.out (by omega)).symm, S1⟩
  by_cases h5 : leaf < buffer
  · go_wp2
    go_ret
    exact ⟨ret_bool (hn.out (by omega)).symm, S1⟩
  by_cases h6 : 1024 < leaf
  · go_wp2
    go_ret
    exact ⟨ret_bool (hn.out (by omega)).symm, S1⟩
  by_cases h7 : key < 1
  · go_wp2
    go_ret
    exact ⟨ret_bool (hn.out (by omega)).symm, S1⟩
  by_cases h8 : 64 < key
  · go_wp2
    go_ret
    exact ⟨ret_bool (hn.out (by omega)).symm, S1⟩
  by_cases h9 : val < 0
  · go_wp2
    go_ret
    exact ⟨ret_bool (hn.out (by omega)).symm, S1⟩
  by_cases h10 : 256 < val
  · go_wp2
    go_ret
    exact ⟨ret_bool (hn.out (by omega)).symm, S1⟩
  · go_wp2
    go_ret
    exact ⟨ret_bool (hy.out (by omega)).symm, S1⟩
theorem Cfg.inner_le (c : Cfg) : 0 ≤ c.inner ∧ c.inner ≤ 200000 := by
  unfold Cfg.inner
  split
  · rename_i h
    unfold Cfg.Sized at h
    have h1 := mulb (a := c.fan - 1) (b := 1 + c.key) (A := 63) (B := 65) (by omega) (by omega) (by omega) (by omega)
    have h2 := mulb (a := c.buffer) (b := 4 + c.key + c.val) (A := 512) (B := 324) (by omega) (by omega) (by omega) (by omega)
    omega
  · omega
theorem Cfg.outer_le (c : Cfg) : 0 ≤ c.outer ∧ c.outer ≤ 400000 := by
  unfold Cfg.outer
  split
  · rename_i h
    unfold Cfg.Sized at h
    have h2 := mulb (a := c.leaf) (b := 3 + c.key + c.val) (A := 1024) (B := 323) (by omega) (by omega) (by omega) (by omega)
    omega
  · omega
def CfgB (g : Nat) (c : Cfg) : Blocks := [(g, C 23 c.cells)]
set_option maxHeartbeats 2000000 in
theorem conf_inner : Calls Tryz.prog 87 #[c.v] w fun e w' => e = .returned (.int .i64 c.inner) ∧ St w (FP w []) w' [] := by
  have hs := Lib.hid (fun w => conf_sized c w)
  have hy : Hid (c.sized = true → c.Sized ∧ c.inner = 8 + 4 * c.fan + (c.fan - 1) * (1 + c.key) + c.buffer * (4 + c.key + c.val)) := by
    show _ → _; intro h; unfold Cfg.sized at h; have h := of_decide_eq_true h; unfold Cfg.inner; rw [if_pos h]; exact ⟨h, rfl⟩
  have hn : Hid (c.sized = false → c.inner = 0) := by show _ → _; intro h; unfold Cfg.sized at h; have h := of_decide_eq_false h; unfold Cfg.inner; rw [if_neg h]
  generalize c.inner = res at *
  generalize c.sized = sz at *
  obtain ⟨blocks, bytes, frames, fan, buffer, leaf, key, val⟩ := c
  unfold Cfg.Sized at *
  unfold Cfg.v Cfg.cells at *
  dsimp only at *
  go_enter Tryz.func87, Tryz.ntmps87
  go_wp2_with (refine wpl_box (St.nil w) rfl _ _ rfl _ rfl ?_)
  intro g w1 hg S1
  replace S1 : St w _ w1 [(g, C 23 [.int .i64 blocks, .int .i64 bytes, .int .i64 frames, .int .i64 fan, .int .i64 buffer, .int .i64 leaf, .int .i64 key, .int .i64 val])] := S1
  have c0 := S1.cell 0 rfl 0 rfl
  have c1 := S1.cell 0 rfl 1 rfl
  have c2 := S1.cell 0 rfl 2 rfl
  have c3 := S1.cell 0 rfl 3 rfl
  have c4 := S1.cell 0 rfl 4 rfl
  have c5 := S1.cell 0 rfl 5 rfl
  have c6 := S1.cell 0 rfl 6 rfl
  have c7 := S1.cell 0 rfl 7 rfl
  go_wp2_with (go_at_call 66; refine (hs.out _).mono ?_)
  rintro e w2 ⟨rfl, S2⟩
  have S3 := (S1.pure S2)
  have c3 := S3.cell 0 rfl 3 rfl
  have c4 := S3.cell 0 rfl 4 rfl
  have c5 := S3.cell 0 rfl 5 rfl
  have c6 := S3.cell 0 rfl 6 rfl
  have c7 := S3.cell 0 rfl 7 rfl
  replace S3 := S3.right (A := [_])
  clear S1 S2
  cases sz
  · go_wp2
    go_ret
    exact ⟨ret_int (hn.out (by simp)).symm, S3⟩
  · obtain ⟨h, hr⟩ := hy.out (by simp)
    subst hr
    have h1 := mulb (a := fan - 1) (b := 1 + key) (A := 63) (B := 65) (by omega) (by omega) (by omega) (by omega)
    have h2 := mulb (a := buffer) (b := 4 + key + val) (A := 512) (B := 324) (by omega) (by omega) (by omega) (by omega)
    have k1 : IntKind.i64.wrap (4 * fan) = 4 * fan := IntWalk.i64_in _ (by omega)
    have k2 : IntKind.i64.wrap (8 + 4 * fan) = 8 + 4 * fan := IntWalk.i64_in _ (by omega)
    have k3 : IntKind.i64.wrap (fan - 1) = fan - 1 := IntWalk.i64_in _ (by omega)
    have k4 : IntKind.i64.wrap (1 + key) = 1 + key := IntWalk.i64_in _ (by omega)
    have k5 : IntKind.i64.wrap ((fan - 1) * (1 + key)) = (fan - 1) * (1 + key) := IntWalk.i64_in _ (by omega)
    have k6 : IntKind.i64.wrap (8 + 4 * fan + (fan - 1) * (1 + key)) = 8 + 4 * fan + (fan - 1) * (1 + key) := IntWalk.i64_in _ (by omega)
    have k7 : IntKind.i64.wrap (4 + key) = 4 + key := IntWalk.i64_in _ (by omega)
    have k8 : IntKind.i64.wrap (4 + key + val) = 4 + key + val := IntWalk.i64_in _ (by omega)
    have k9 : IntKind.i64.wrap (buffer * (4 + key + val)) = buffer * (4 + key + val) := IntWalk.i64_in _ (by omega)
    have k10 : IntKind.i64.wrap (8 + 4 * fan + (fan - 1) * (1 + key) + buffer * (4 + key + val)) = 8 + 4 * fan + (fan - 1) * (1 + key) + buffer * (4 + key + val) := IntWalk.i64_in _ (by omega)
    clear h h1 h2
    go_wp2
    go_ret
    exact ⟨rfl, S3⟩
set_option maxHeartbeats 2000000 in
theorem conf_outer : Calls Tryz.prog 88 #[c.v] w fun e w' => e = .returned (.int .i64 c.outer) ∧ St w (FP w []) w' [] := by
  have hs := Lib.hid (fun w => conf_sized c w)
  have hy : Hid (c.sized = true → c.Sized ∧ c.outer = 8 + c.leaf * (3 + c.key + c.val)) := by
    show _ → _; intro h; unfold Cfg.sized at h; have h := of_decide_eq_true h; unfold Cfg.outer; rw [if_pos h]; exact ⟨h, rfl⟩
  have hn : Hid (c.sized = false → c.outer = 0) := by show _ → _; intro h; unfold Cfg.sized at h; have h := of_decide_eq_false h; unfold Cfg.outer; rw [if_neg h]
  generalize c.outer = res at *
  generalize c.sized = sz at *
  obtain ⟨blocks, bytes, frames, fan, buffer, leaf, key, val⟩ := c
  unfold Cfg.Sized at *
  unfold Cfg.v Cfg.cells at *
  dsimp only at *
  go_enter Tryz.func88, Tryz.ntmps88
  go_wp2_with (refine wpl_box (St.nil w) rfl _ _ rfl _ rfl ?_)
  intro g w1 hg S1
  replace S1 : St w _ w1 [(g, C 23 [.int .i64 blocks, .int .i64 bytes, .int .i64 frames, .int .i64 fan, .int .i64 buffer, .int .i64 leaf, .int .i64 key, .int .i64 val])] := S1
  have c0 := S1.cell 0 rfl 0 rfl
  have c1 := S1.cell 0 rfl 1 rfl
  have c2 := S1.cell 0 rfl 2 rfl
  have c3 := S1.cell 0 rfl 3 rfl
  have c4 := S1.cell 0 rfl 4 rfl
  have c5 := S1.cell 0 rfl 5 rfl
  have c6 := S1.cell 0 rfl 6 rfl
  have c7 := S1.cell 0 rfl 7 rfl
  go_wp2_with (go_at_call 66; refine (hs.out _).mono ?_)
  rintro e w2 ⟨rfl, S2⟩
  have S3 := (S1.pure S2)
  have c3 := S3.cell 0 rfl 3 rfl
  have c4 := S3.cell 0 rfl 4 rfl
  have c5 := S3.cell 0 rfl 5 rfl
  have c6 := S3.cell 0 rfl 6 rfl
  have c7 := S3.cell 0 rfl 7 rfl
  replace S3 := S3.right (A := [_])
  clear S1 S2
  cases sz
  · go_wp2
    go_ret
    exact ⟨ret_int (hn.out (by simp)).symm, S3⟩
  · obtain ⟨h, hr⟩ := hy.out (by simp)
    subst hr
    have h2 := mulb (a := leaf) (b := 3 + key + val) (A := 1024) (B := 323) (by omega) (by omega) (by omega) (by omega)
    have k1 : IntKind.i64.wrap (3 + key) = 3 + key := IntWalk.i64_in _ (by omega)
    have k2 : IntKind.i64.wrap (3 + key + val) = 3 + key + val := IntWalk.i64_in _ (by omega)
    have k3 : IntKind.i64.wrap (leaf * (3 + key + val)) = leaf * (3 + key + val) := IntWalk.i64_in _ (by omega)
    have k4 : IntKind.i64.wrap (8 + leaf * (3 + key + val)) = 8 + leaf * (3 + key + val) := IntWalk.i64_in _ (by omega)
    clear h h2
    go_wp2
    go_ret
    exact ⟨rfl, S3⟩
end
end Go.Proofs.YtnobknmhffaoeaaGreatDoor
namespace Go.Proofs.YtnobknmhffaoeaaGreatDoor
open Go.RowKit
section
variable (c : Cfg) (w : World)
theorem Cfg.least_of (c : Cfg) (h : c.sized = true) : c.least = { c with bytes := max 64 (max c.inner c.outer) } := by
  unfold Cfg.sized at h; have h := of_decide_eq_true h; unfold Cfg.least; rw [if_pos h]
theorem Cfg.least_no (c : Cfg) (h : c.sized = false) : c.least = c := by
  unfold Cfg.sized at h; have h := of_decide_eq_false h; unfold Cfg.least; rw [if_neg h]
set_option maxRecDepth 100000 in
set_option maxHeartbeats 2000000 in
theorem conf_least : Calls Tryz.prog 67 #[c.v] w fun e w' => e = .returned c.least.v ∧ St w (FP w []) w' [] := by
  have hs := Lib.hid (fun w => conf_sized c w)
  have hi := Lib.hid (fun w => conf_inner c w)
  have ho := Lib.hid (fun w => conf_outer c w)
  have hy : Hid (c.sized = true → c.least = { c with bytes := max 64 (max c.inner c.outer) }) := c.least_of
  have hn : Hid (c.sized = false → c.least = c) := c.least_no
  generalize c.sized = sz at *
  generalize c.least = le at *
  generalize c.inner = inn at *
  generalize c.outer = out at *
  obtain ⟨blocks, bytes, frames, fan, buffer, leaf, key, val⟩ := c
  unfold Cfg.v Cfg.cells at *
  dsimp only at *
  go_enter Tryz.func67, Tryz.ntmps67
  go_wp2_with (refine wpl_box (St.nil w) rfl _ _ rfl _ rfl ?_)
  intro g w1 hg S1
  replace S1 : St w _ w1 [(g, C 23 [.int .i64 blocks, .int .i64 bytes, .int .i64 frames, .int .i64 fan, .int .i64 buffer, .int .i64 leaf, .int .i64 key, .int .i64 val])] := S1
  go_wp2_with (refine wpl_alloc S1 rfl _ rfl _ Tryz.zeroValue23 ?_)
  intro g2 w2 hg2 S2
  have c0 := S2.cell 1 rfl 0 rfl
  have c1 := S2.cell 1 rfl 1 rfl
  have c2 := S2.cell 1 rfl 2 rfl
  have c3 := S2.cell 1 rfl 3 rfl
  have c4 := S2.cell 1 rfl 4 rfl
  have c5 := S2.cell 1 rfl 5 rfl
  have c6 := S2.cell 1 rfl 6 rfl
  have c7 := S2.cell 1 rfl 7 rfl
  go_wp2_with (go_at_call 66; refine (hs.out _).mono ?_)
  rintro e w3 ⟨rfl, S3⟩
  replace S3 := S2.pure S3
  have c0 := S3.cell 1 rfl 0 rfl
  have c1 := S3.cell 1 rfl 1 rfl
  have c2 := S3.cell 1 rfl 2 rfl
  have c3 := S3.cell 1 rfl 3 rfl
  have c4 := S3.cell 1 rfl 4 rfl
  have c5 := S3.cell 1 rfl 5 rfl
  have c6 := S3.cell 1 rfl 6 rfl
  have c7 := S3.cell 1 rfl 7 rfl
  clear S1 S2 hs
  have hone : ∀ a b c d e f g h : Int, ∀ u ∈ (Value.cells (.agg #[.int .i64 a, .int .i64 b, .int .i64 c, .int .i64 d, .int .i64 e, .int .i64 f, .int .i64 g, .int .i64 h])).toList, u.oneCell' = true := by
    intro a b c d e f g h u hu; simp [Value.cells] at hu; rcases hu with rfl | rfl | rfl | rfl | rfl | rfl | rfl | rfl <;> rfl
  replace S3 : St w (FP w []) w3 [(g2, C 23 [.int .i64 0, .int .i64 0, .int .i64 0, .int .i64 0, .int .i64 0, .int .i64 0, .int .i64 0, .int .i64 0]), (g, C 23 [.int .i64 blocks, .int .i64 bytes, .int .i64 frames, .int .i64 fan, .int .i64 buffer, .int .i64 leaf, .int .i64 key, .int .i64 val])] := S3
  cases sz
  · have := hn.out (by simp)
    subst this
    go_wp2_with (refine wpl_store rfl _ _ _ rfl _ _ rfl _ rfl Tryz.sizeOf23 S3 0 _ _ rfl (Nat.le_refl _) (hone _ _ _ _ _ _ _ _) ?_)
    intro w4 S4 _
    replace S4 : St w _ w4 [(g2, C 23 [.int .i64 blocks, .int .i64 bytes, .int .i64 frames, .int .i64 fan, .int .i64 buffer, .int .i64 leaf, .int .i64 key, .int .i64 val]), _] := S4
    go_wp2
    exact ret_cell S4 0 rfl rfl rfl rfl _ Tryz.underlying23 rfl (by kernel_rfl) ⟨rfl, S4.right (A := [_, _])⟩
  · have := hy.out (by simp)
    subst this
    obtain ⟨m1, e1⟩ : ∃ m, (if (64 : Int) < inn then inn else 64) = m := ⟨_, rfl⟩
    obtain ⟨mx, e2⟩ : ∃ m, (if m1 < out then out else m1) = m := ⟨_, rfl⟩
    have hm : Hid (max 64 (max inn out) = mx) := by
      show _ = _; subst e2; subst e1; split <;> split <;> omega
    clear hy hn
    go_upto_region 2 with fail
    have cl : ∀ {w'}, St w (FP w []) w' [(g2, C 23 [.int .i64 0, .int .i64 0, .int .i64 0, .int .i64 0, .int .i64 0, .int .i64 0, .int .i64 0, .int .i64 0]), (g, C 23 [.int .i64 blocks, .int .i64 bytes, .int .i64 frames, .int .i64 fan, .int .i64 buffer, .int .i64 leaf, .int .i64 key, .int .i64 val])] → w'.cell? ⟨g, 0, none⟩ = some (.int .i64 blocks) ∧ w'.cell? ⟨g, 1, none⟩ = some (.int .i64 bytes) ∧ w'.cell? ⟨g, 2, none⟩ = some (.int .i64 frames) ∧ w'.cell? ⟨g, 3, none⟩ = some (.int .i64 fan) ∧ w'.cell? ⟨g, 4, none⟩ = some (.int .i64 buffer) ∧ w'.cell? ⟨g, 5, none⟩ = some (.int .i64 leaf) ∧ w'.cell? ⟨g, 6, none⟩ = some (.int .i64 key) ∧ w'.cell? ⟨g, 7, none⟩ = some (.int .i64 val) ∧ w'.frozen? ⟨g, 1, none⟩ = false := by
      intro w' S
      exact ⟨S.cell 1 rfl 0 rfl, S.cell 1 rfl 1 rfl, S.cell 1 rfl 2 rfl, S.cell 1 rfl 3 rfl, S.cell 1 rfl 4 rfl, S.cell 1 rfl 5 rfl, S.cell 1 rfl 6 rfl, S.cell 1 rfl 7 rfl, S.frozen 1 rfl 1⟩
    go_region_with (first | ((go_at_call 87; refine (hi.out _).mono ?_; rintro e w4 ⟨rfl, S4⟩; (first | replace S3 := S3.pure S4 | replace S3 := S3.drew.pure S4); obtain ⟨d0, d1, d2, d3, d4, d5, d6, d7, d8⟩ := cl S3)) | ((go_at_call 88; refine (ho.out _).mono ?_; rintro e w5 ⟨rfl, S5⟩; replace S3 := S3.pure S5; obtain ⟨d0, d1, d2, d3, d4, d5, d6, d7, d8⟩ := cl S3)))
    all_goals replace S3 : St w _ _ [_, (g, C 23 [.int .i64 blocks, .int .i64 mx, .int .i64 frames, .int .i64 fan, .int .i64 buffer, .int .i64 leaf, .int .i64 key, .int .i64 val])] := S3.setCell 1 rfl 1 (.int .i64 mx)
    all_goals generalize World.setCell _ _ _ = wx at *
    all_goals go_wp2_with (first | (refine wpl_loadrow S3 1 rfl rfl _ _ rfl rfl _ Tryz.underlying23 rfl (by kernel_rfl) ?_) | (refine wpl_store rfl _ _ _ rfl _ _ rfl _ rfl Tryz.sizeOf23 S3 0 _ _ rfl ?_ ?_ ?_; (exact Nat.le_refl _); (exact hone _ _ _ _ _ _ _ _)))
    all_goals intro w6 S6 _
    all_goals replace S6 : St w _ w6 [(g2, C 23 [.int .i64 blocks, .int .i64 mx, .int .i64 frames, .int .i64 fan, .int .i64 buffer, .int .i64 leaf, .int .i64 key, .int .i64 val]), _] := S6
    all_goals go_wp2
    all_goals exact ret_cell S6 0 rfl rfl rfl rfl _ Tryz.underlying23 rfl (by kernel_rfl) ⟨by rw [hm.out], S6.right (A := [_, _])⟩
def Cfg.check (c : Cfg) : Int := if c.Ok then 0 else 2
set_option maxRecDepth 100000 in
set_option maxHeartbeats 2000000 in
theorem conf_check : Calls Tryz.prog 37 #[c.v] w fun e w' => e = .returned (.int .i64 c.check) ∧ St w (FP w []) w' [] := by
  have hs := Lib.hid (fun w => conf_sized c w)
  have hl := Lib.hid (fun w => conf_least c w)
  have hy : Hid ((c.sized = true ∧ 5 ≤ c.blocks ∧ c.blocks ≤ 65536 ∧ 8 ≤ c.frames ∧ c.frames ≤ 64 ∧ c.bytes ≤ 65536 ∧ c.least.bytes ≤ c.bytes) → c.check = 0) := by
    show _ → _; intro h; unfold Cfg.check; rw [if_pos]; unfold Cfg.Ok; exact ⟨of_decide_eq_true h.1, h.2⟩
  have hn : Hid (¬ (c.sized = true ∧ 5 ≤ c.blocks ∧ c.blocks ≤ 65536 ∧ 8 ≤ c.frames ∧ c.frames ≤ 64 ∧ c.bytes ≤ 65536 ∧ c.least.bytes ≤ c.bytes) → c.check = 2) := by
    show _ → _; intro h; unfold Cfg.check; rw [if_neg]; unfold Cfg.Ok; intro h2; exact h ⟨decide_eq_true h2.1, h2.2⟩
  generalize c.sized = sz at *
  obtain ⟨lb, hlb⟩ : ∃ lb, c.least.bytes = lb := ⟨_, rfl⟩
  obtain ⟨l0, l2, l3, l4, l5, l6, l7, hlv⟩ : ∃ l0 l2 l3 l4 l5 l6 l7, c.least.v = .agg #[.int .i64 l0, .int .i64 lb, .int .i64 l2, .int .i64 l3, .int .i64 l4, .int .i64 l5, .int .i64 l6, .int .i64 l7] := by
    subst hlb; exact ⟨_, _, _, _, _, _, _, rfl⟩
  simp only [hlv] at hl
  rw [hlb] at hy hn
  clear hlv hlb
  generalize c.check = res at *
  obtain ⟨blocks, bytes, frames, fan, buffer, leaf, key, val⟩ := c
  unfold Cfg.v Cfg.cells at *
  dsimp only at *
  go_enter Tryz.func37, Tryz.ntmps37
  go_wp2_with (refine wpl_box (St.nil w) rfl _ _ rfl _ rfl ?_)
  intro g w1 hg S1
  replace S1 : St w _ w1 [(g, C 23 [.int .i64 blocks, .int .i64 bytes, .int .i64 frames, .int .i64 fan, .int .i64 buffer, .int .i64 leaf, .int .i64 key, .int .i64 val])] := S1
  have cl : ∀ {w'}, St w (FP w []) w' [(g, C 23 [.int .i64 blocks, .int .i64 bytes, .int .i64 frames, .int .i64 fan, .int .i64 buffer, .int .i64 leaf, .int .i64 key, .int .i64 val])] → w'.cell? ⟨g, 0, none⟩ = some (.int .i64 blocks) ∧ w'.cell? ⟨g, 1, none⟩ = some (.int .i64 bytes) ∧ w'.cell? ⟨g, 2, none⟩ = some (.int .i64 frames) ∧ w'.cell? ⟨g, 3, none⟩ = some (.int .i64 fan) ∧ w'.cell? ⟨g, 4, none⟩ = some (.int .i64 buffer) ∧ w'.cell? ⟨g, 5, none⟩ = some (.int .i64 leaf) ∧ w'.cell? ⟨g, 6, none⟩ = some (.int .i64 key) ∧ w'.cell? ⟨g, 7, none⟩ = some (.int .i64 val) := by
    intro w' S
    exact ⟨S.cell 0 rfl 0 rfl, S.cell 0 rfl 1 rfl, S.cell 0 rfl 2 rfl, S.cell 0 rfl 3 rfl, S.cell 0 rfl 4 rfl, S.cell 0 rfl 5 rfl, S.cell 0 rfl 6 rfl, S.cell 0 rfl 7 rfl⟩
  obtain ⟨d0, d1, d2, d3, d4, d5, d6, d7⟩ := cl S1
  go_wp2_with (go_at_call 66; refine (hs.out _).mono ?_)
  rintro e w2 ⟨rfl, S2⟩
  replace S2 : St w _ w2 [(g, C 23 [.int .i64 blocks, .int .i64 bytes, .int .i64 frames, .int .i64 fan, .int .i64 buffer, .int .i64 leaf, .int .i64 key, .int .i64 val])] := S1.pure S2
  obtain ⟨d0, d1, d2, d3, d4, d5, d6, d7⟩ := cl S2
  clear S1
  have S3 := S2.right (A := [_])
  have done2 : ∀ q, St w (FP w []) (w2.drewN q) [] := fun q => S3.drewN q
  cases sz
  · go_wp2_with fail
    go_quiet (fail)
    go_wp2
    go_ret
    exact ⟨ret_int (hn.out (by simp)).symm, done2 _⟩
  by_cases h1 : blocks < 5
  · go_wp2_with fail
    go_quiet (fail)
    go_wp2
    go_ret
    exact ⟨ret_int (hn.out (by simp only [true_and]; omega)).symm, done2 _⟩
  by_cases h2 : 65536 < blocks
  · go_wp2_with fail
    go_quiet (fail)
    go_wp2
    go_ret
    exact ⟨ret_int (hn.out (by simp only [true_and]; omega)).symm, done2 _⟩
  by_cases h3 : frames < 8
  · go_wp2_with fail
    go_quiet (fail)
    go_wp2
    go_ret
    exact ⟨ret_int (hn.out (by simp only [true_and]; omega)).symm, done2 _⟩
  by_cases h4 : 64 < frames
  · have b4 : decide (frames ≤ 64) = false := by simp; omega
    go_wp2_with fail
    go_quiet (fail)
    go_wp2
    go_ret
    exact ⟨ret_int (hn.out (by simp only [true_and]; omega)).symm, done2 _⟩
  have hfld : ∀ w, (Instr.field 23 (.agg #[.int .i64 l0, .int .i64 lb, .int .i64 l2, .int .i64 l3, .int .i64 l4, .int .i64 l5, .int .i64 l6, .int .i64 l7]) 1).run Tryz.prog w = .ok (.int .i64 lb) w := by
    intro w; simp [Instr.field, run_underlying Tryz.underlying23, part, Tryz.isAgg3, asAgg]
  by_cases h5 : 65536 < bytes
  · go_wp2_with fail
    go_quiet (fail)
    go_wp2
    go_ret
    exact ⟨ret_int (hn.out (by simp only [true_and]; omega)).symm, done2 _⟩
  have b5 : decide (65536 < bytes) = false := by simp; omega
  by_cases h6 : bytes < lb
  · go_wp2_with fail
    go_region_with ((go_at_call 67; refine (hl.out _).mono ?_; rintro e w4 ⟨rfl, S4⟩; replace S2 := S2.drew.pure S4; obtain ⟨d0, d1, d2, d3, d4, d5, d6, d7⟩ := cl S2))
    all_goals go_wp2
    all_goals go_ret
    all_goals exact ⟨ret_int (hn.out (by simp only [true_and]; omega)).symm, S2.right (A := [_])⟩
  · go_wp2_with fail
    go_region_with ((go_at_call 67; refine (hl.out _).mono ?_; rintro e w4 ⟨rfl, S4⟩; replace S2 := S2.drew.pure S4; obtain ⟨d0, d1, d2, d3, d4, d5, d6, d7⟩ := cl S2))
    all_goals go_wp2
    all_goals go_ret
    all_goals exact ⟨ret_int (hy.out (by simp only [true_and]; omega)).symm, S2.right (A := [_])⟩
end
end Go.Proofs.YtnobknmhffaoeaaGreatDoor
