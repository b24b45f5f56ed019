/- law33.awake: the page's example. -/
import Derived.Test.YtnobknmhffaoeaaGreatDoorQLay
import Derived.Test.YtnobknmhffaoeaaGreatDoorQRows
set_option linter.unusedVariables false
set_option linter.unusedSimpArgs false
namespace Go.Proofs.YtnobknmhffaoeaaGreatDoor
open Go.RowKit
def awQ : Cn := ⟨20, 200, 8, 8, 16, 16, 2, 1⟩
def awL : List Pr := [⟨⟨#[97]⟩, ⟨#[]⟩⟩, ⟨⟨#[98]⟩, ⟨#[]⟩⟩]
theorem awQ_good : awQ.Good := by
  constructor <;> (unfold awQ; decide)
theorem aw_rise : Rise (awL.map Pr.key) := by
  intro i a b ha hb
  match i, ha, hb with
  | 0, ha, hb =>
    injection ha with ha; injection hb with hb; subst ha; subst hb
    rw [kcmp_lt]; decide
  | 1, ha, hb => cases hb
  | n + 2, ha, hb => cases hb
theorem aw_each : ∀ p ∈ awL, PairOk awQ.key awQ.val p := by
  intro p hp
  simp only [awL, List.mem_cons, List.not_mem_nil, or_false] at hp
  rcases hp with rfl | rfl
  all_goals exact ⟨⟨by decide, by decide⟩, by decide⟩
theorem aw_rows2 : rowsFrom 8 (max 1 (upN 2 1)) = [2, 1] := by
  rw [show max 1 (upN 2 1) = 2 by decide, rows_more (by omega) (by omega), show upN 2 8 = 1 by decide, rows_end (by omega)]
theorem aw_rows20 : rowsFrom 8 (max 1 (upN 20 2)) = [10, 2, 1] := by
  rw [show max 1 (upN 20 2) = 10 by decide, rows_more (by omega) (by omega), show upN 10 8 = 2 by decide, rows_more (by omega) (by omega), show upN 2 8 = 1 by decide, rows_end (by omega)]
section
variable (w : World)
set_option maxRecDepth 100000 in
set_option maxHeartbeats 4000000 in
theorem awake_ok {N : Nat} (hs : SortU32 N) (hN1 : 12 ≤ N) (hN2 : N ≤ 100000) (t : Obj) (ht : TabO t) (H : HC w (tabB t)) :
    Calls Tryz.prog 8 #[] w fun e w' => e = .returned (.bool true) ∧ St w (FP w (tabB t)) w' (tabB t) := by
  have S0 := H.st
  generalize FP w (tabB t) = F at *
  have hgood := awQ_good
  have hlv : ∀ v, LeavesOk awQ v awL 1 (leafRow 1 awL (upN awL.length 1)) (leafMade awQ 1 awL (upN awL.length 1)) := fun v =>
    leaves_ok hs hN2 hgood 1 (by omega) (by show 1 ≤ 16; omega) v awL (by intro h; cases h) (by show 2 ≤ 100000; omega) aw_rise aw_each (by show upN 2 1 < 20; decide)
  have hsum : 1 + (rowsFrom awQ.fan (max 1 (upN awL.length 1))).sum ≤ awQ.blocks := by
    show 1 + (rowsFrom 8 (max 1 (upN 2 1))).sum ≤ 20
    rw [aw_rows2]; decide
  have hrow := leaf_row_ok (q := awQ) (per := 1) (l := awL) (by omega) aw_rise aw_each (by intro h; cases h) hsum (by show 20 ≤ 65536; omega)
  have hlay := Lib.hid (fun v w H hrd => bulk_lay hs hN2 awQ hgood (by show 8 ≤ N; omega) (by show 8 ≤ N; omega) (by show 20 * 200 ≤ 2147483648; omega) 1 (by omega) (by show 1 ≤ 16; omega) v awL (by show 2 ≤ 100000; omega) aw_rise aw_each hsum _ _ (hlv v) hrow t ht w H hrd)
  have hbl := Lib.hid (fun w => bulk_blocksB awQ hgood 20 2 (by omega) (by omega) (by show 2 ≤ 16; omega) w)
  have hhe := Lib.hid (fun w => bulk_heightB awQ hgood 20 2 (by omega) (by omega) (by show 2 ≤ 16; omega) w)
  have e20 : rowsFrom awQ.fan (max 1 (upN 20 2)) = [10, 2, 1] := aw_rows20
  rw [e20] at hbl hhe
  generalize layImg awQ (leafRow 1 awL (upN awL.length 1)) (leafMade awQ 1 awL (upN awL.length 1)) = img at *
  clear hlv hsum hrow hgood e20 hs ht H hN1 hN2
  have hbl' : Hid (∀ w, Calls Tryz.prog 12 #[.agg #[.int .i64 20, .int .i64 200, .int .i64 8, .int .i64 8, .int .i64 16, .int .i64 16, .int .i64 2, .int .i64 1], .int .i64 20, .int .i64 2] w fun e w' => e = .returned (.int .i64 14) ∧ St w (FP w []) w' []) := hbl.out
  have hhe' : Hid (∀ w, Calls Tryz.prog 13 #[.agg #[.int .i64 20, .int .i64 200, .int .i64 8, .int .i64 8, .int .i64 16, .int .i64 16, .int .i64 2, .int .i64 1], .int .i64 20, .int .i64 2] w fun e w' => e = .returned (.int .i64 3) ∧ St w (FP w []) w' []) := hhe.out
  have hlay' : Hid (∀ v w, HC w (tabB t) → (∀ W1 L, St w (FP w (tabB t)) W1 L → Rd ePr W1 v awL) → Calls Tryz.prog 9 #[.agg #[.int .i64 20, .int .i64 200, .int .i64 8, .int .i64 8, .int .i64 16, .int .i64 16, .int .i64 2, .int .i64 1], v, .int .i64 1] w fun e w' => ∃ r A, e = .returned (.tuple #[r, .int .i64 0]) ∧ Own eByte 5 r img A ∧ img.length = 4000 ∧ St w (FP w (tabB t)) w' (A ++ tabB t)) := hlay.out
  clear hlay hbl hhe
  go_enter Tryz.func8, Tryz.ntmps8
  have S1 := S0.alloc (C 23 [.int .i64 20, .int .i64 200, .int .i64 8, .int .i64 8, .int .i64 16, .int .i64 16, .int .i64 2, .int .i64 1])
  have S2 := S1.alloc (C 40 [.string ⟨#[97]⟩, .string ⟨#[]⟩, .string ⟨#[98]⟩, .string ⟨#[]⟩])
  have S3 := St.swap (A := [_, _]) S2
  have hrd : ∀ W1 L, St ((w.alloc (C 23 [.int .i64 20, .int .i64 200, .int .i64 8, .int .i64 8, .int .i64 16, .int .i64 16, .int .i64 2, .int .i64 1])).alloc (C 40 [.string ⟨#[97]⟩, .string ⟨#[]⟩, .string ⟨#[98]⟩, .string ⟨#[]⟩])) (FP ((w.alloc (C 23 [.int .i64 20, .int .i64 200, .int .i64 8, .int .i64 8, .int .i64 16, .int .i64 16, .int .i64 2, .int .i64 1])).alloc (C 40 [.string ⟨#[97]⟩, .string ⟨#[]⟩, .string ⟨#[98]⟩, .string ⟨#[]⟩])) (tabB t)) W1 L → Rd ePr W1 (.slice (some ⟨(w.alloc (C 23 [.int .i64 20, .int .i64 200, .int .i64 8, .int .i64 8, .int .i64 16, .int .i64 16, .int .i64 2, .int .i64 1])).heap.size, 0, none⟩) 2 2) awL := by
    intro W1 L S
    have S4 := (S3.call S).right
    refine ⟨_, 2, rfl, by decide, by decide, fun k u hk => ⟨_, _, rfl, ?_⟩⟩
    rw [Nat.zero_add]
    exact S4.cell 0 rfl k hk
  have hl1 := Lib.hid (hlay'.out _ _ S3.hc.left hrd)
  rw [World.size_alloc] at hl1 S3
  have hS3 := Lib.hid S3
  clear S0 S1 S2 S3 hrd hlay'
  go_wp2_with (go_at_call 9; refine hl1.out.mono ?_)
  rintro e w4 ⟨r, A, rfl, O, hlen, S5⟩
  have S6 := hS3.out.call S5
  obtain ⟨B, c, rfl, _, _⟩ := O.slice
  rw [hlen]
  have S7 : St w F w4 ([(w.heap.size, C 23 [.int .i64 20, .int .i64 200, .int .i64 8, .int .i64 8, .int .i64 16, .int .i64 16, .int .i64 2, .int .i64 1])] ++ tabB t) :=
    S6.swap.thin (List.Sublist.append (List.Sublist.cons _ (List.Sublist.refl _)) (List.sublist_append_right _ _))
  have Fx : Hid (∀ wr, St w F wr ([(w.heap.size, C 23 [.int .i64 20, .int .i64 200, .int .i64 8, .int .i64 8, .int .i64 16, .int .i64 16, .int .i64 2, .int .i64 1])] ++ tabB t) → wr.cell? ⟨w.heap.size, 0, none⟩ = some (.int .i64 20) ∧ wr.cell? ⟨w.heap.size, 1, none⟩ = some (.int .i64 200) ∧ wr.cell? ⟨w.heap.size, 2, none⟩ = some (.int .i64 8) ∧ wr.cell? ⟨w.heap.size, 3, none⟩ = some (.int .i64 8) ∧ wr.cell? ⟨w.heap.size, 4, none⟩ = some (.int .i64 16) ∧ wr.cell? ⟨w.heap.size, 5, none⟩ = some (.int .i64 16) ∧ wr.cell? ⟨w.heap.size, 6, none⟩ = some (.int .i64 2) ∧ wr.cell? ⟨w.heap.size, 7, none⟩ = some (.int .i64 1)) :=
    fun wr S => ⟨S.cell 0 rfl 0 rfl, S.cell 0 rfl 1 rfl, S.cell 0 rfl 2 rfl, S.cell 0 rfl 3 rfl, S.cell 0 rfl 4 rfl, S.cell 0 rfl 5 rfl, S.cell 0 rfl 6 rfl, S.cell 0 rfl 7 rfl⟩
  obtain ⟨f0, f1, f2, f3, f4, f5, f6, f7⟩ := Fx.out _ S7
  have hS7 := Lib.hid S7
  clear O S5 S6 S7 hS3 hl1 hlen
  go_wp2_with (first | (go_at_call 12; refine (hbl'.out _).mono ?_; rintro e w5 ⟨rfl, S8⟩; have hS8 := Lib.hid (hS7.out.pure S8); obtain ⟨f0, f1, f2, f3, f4, f5, f6, f7⟩ := Fx.out _ hS8.out; clear S8) | (go_at_call 13; refine (hhe'.out _).mono ?_; rintro e w6 ⟨rfl, S9⟩; have hS9 := Lib.hid (hS8.out.pure S9); clear S9))
  go_ret
  exact ⟨rfl, St.right (A := [_]) hS9.out⟩
end
end Go.Proofs.YtnobknmhffaoeaaGreatDoor
