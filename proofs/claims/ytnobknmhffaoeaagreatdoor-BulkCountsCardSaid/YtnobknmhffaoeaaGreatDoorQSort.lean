/- slices.Sort at uint32, of a few elements: sorted by insertion. slices.Sort at uint32: at 12 elements or fewer. -/
import Derived.Test.YtnobknmhffaoeaaGreatDoorQCache
import Derived.Deep.DeepMust
set_option linter.unusedVariables false
set_option linter.unusedSimpArgs false
namespace Go.Proofs.YtnobknmhffaoeaaGreatDoor
open Go.RowKit
theorem all_u32 (l : List Nat) : (eNat .u32).all l = l.map fun x : Nat => Value.int .u32 x := by
  induction l with
  | nil => rfl
  | cons a l ih => simp only [Lay.all, List.flatMap_cons, List.map_cons] at ih ⊢; rw [ih]; rfl
theorem swap_cells (P R : List Value) (u v : Value) : ((P ++ u :: v :: R).set (P.length + 1) u).set P.length v = P ++ v :: u :: R := by
  induction P with
  | nil => rfl
  | cons a P ih => simp [ih]
theorem swap_cells' (P R : List Value) (u v : Value) : ((P ++ u :: v :: R).set P.length v).set (P.length + 1) u = P ++ v :: u :: R := by
  induction P with
  | nil => rfl
  | cons a P ih => simp [ih]
theorem insert_sorted {A B : List Nat} {x : Nat} (h : (A ++ B).Pairwise (· ≤ ·)) (hB : ∀ b ∈ B, x < b) (hA : ∀ a ∈ A, a ≤ x) : (A ++ x :: B).Pairwise (· ≤ ·) := by
  rw [List.pairwise_append] at h ⊢
  obtain ⟨h1, h2, h3⟩ := h
  refine ⟨h1, List.pairwise_cons.2 ⟨fun b hb => Nat.le_of_lt (hB b hb), h2⟩, fun a ha b hb => ?_⟩
  rcases List.mem_cons.1 hb with rfl | hb
  · exact hA a ha
  · exact h3 a ha b hb
section
variable (w : World)
theorem isnan_u32 (x : Nat) : Calls Tryz.prog 167 #[.int .u32 x] w fun e w' => e = .returned (.bool false) ∧ w = w' := by
  go_enter Tryz.func167, Tryz.ntmps167
  go_wp2
  go_ret
  exact ⟨by simp, rfl⟩
theorem less_u32 (x y : Nat) (b : Bool) (hb : b = decide (x < y)) : Calls Tryz.prog 157 #[.int .u32 x, .int .u32 y] w fun e w' => e = .returned (.bool b) ∧ w = w' := by
  have h := Lib.hid (fun w => isnan_u32 w x)
  have hbb := Lib.hid hb
  clear hb
  go_enter Tryz.func157, Tryz.ntmps157
  go_wp2_with (go_at_call 167; refine (h.out _).mono ?_; rintro e w' ⟨rfl, rfl⟩)
  go_ret
  exact ⟨by rw [hbb.out]; rfl, rfl⟩
set_option maxRecDepth 100000 in
set_option maxHeartbeats 4000000 in
theorem ins_u32 (g cap : Nat) (xs : List Nat) (spare : List Value) (hn : xs.length ≤ 1000000) (h1 : 1 ≤ xs.length) (H : HC w [(g, C 53 ((eNat .u32).all xs ++ spare))]) :
    Calls Tryz.prog 151 #[.slice (some ⟨g, 0, none⟩) xs.length cap, .int .i64 0, .int .i64 xs.length] w fun e w' => e = .returned (.tuple #[]) ∧
      ∃ ys : List Nat, ys.Perm xs ∧ ys.Pairwise (· ≤ ·) ∧ St w (FP w [(g, C 53 ((eNat .u32).all xs ++ spare))]) w' [(g, C 53 ((eNat .u32).all ys ++ spare))] := by
  have S := H.st
  generalize FP w [(g, C 53 ((eNat .u32).all xs ++ spare))] = F at *
  have hless := Lib.hid (fun w x y b hb => less_u32 w x y b hb)
  obtain ⟨n, hnx⟩ : ∃ n, n = xs.length := ⟨_, rfl⟩
  rw [← hnx] at hn h1 ⊢
  have hnx := Lib.hid hnx
  clear H
  go_enter Tryz.func151, Tryz.ntmps151
  go_wp2
  go_loopw [6] (fun vi wr => ∃ (i : Nat) (P Q : List Nat), vi = .int .i64 i ∧ Hid (P.length = i ∧ P.Pairwise (· ≤ ·) ∧ (P ++ Q).Perm xs) ∧ 1 ≤ i ∧ i ≤ n ∧ St w F wr [(g, C 53 ((eNat .u32).all (P ++ Q) ++ spare))]) (fun vi _ => n + 1 - (intOf vi).toNat)
  case atStart =>
    cases xs with
    | nil => have := hnx.out; simp at this; omega
    | cons x xs => exact ⟨1, [x], xs, rfl, ⟨rfl, by simp, by simp⟩, by omega, h1, S⟩
  case round =>
    obtain ⟨i, P, Q, rfl, hP, hi1, hin, Sr⟩ := hrel
    cases Q with
    | nil =>
      have hni : i = n := by
        obtain ⟨a, b, c⟩ := hP.out
        have := c.length_eq
        rw [hnx.out, ← this, List.append_nil, a]
      go_wp2
      go_end0
      obtain ⟨a, b, c⟩ := hP.out
      exact ⟨rfl, P, by simpa using c, b, by simpa using Sr⟩
    | cons x Q =>
      have hlt : i < n := by
        obtain ⟨a, b, c⟩ := hP.out
        have := c.length_eq
        rw [hnx.out, ← this, List.length_append, a]; simp
      go_wp2
      go_loopw [7] (fun vj wr2 => ∃ (j : Nat) (A B : List Nat), vj = .int .i64 j ∧ Hid (A.length = j ∧ A ++ B = P ∧ ∀ b ∈ B, x < b) ∧ j ≤ i ∧ St w F wr2 [(g, C 53 ((eNat .u32).all (A ++ x :: (B ++ Q)) ++ spare))]) (fun vj _ => (intOf vj).toNat)
      case atStart => exact ⟨i, P, [], rfl, ⟨hP.out.1, by simp, by simp⟩, Nat.le_refl _, by simpa using Sr⟩
      case round =>
        obtain ⟨j, A, B, rfl, hA, hji, Sj⟩ := hrel
        have out : ∀ q, (∀ a ∈ A, a ≤ x) → ∃ (i' : Nat) (P' Q' : List Nat), Value.int .i64 ((i : Int) + 1) = .int .i64 (i' : Nat) ∧ Hid (P'.length = i' ∧ P'.Pairwise (· ≤ ·) ∧ (P' ++ Q').Perm xs) ∧ 1 ≤ i' ∧ i' ≤ n ∧ St w F (wr.drewN q) [(g, C 53 ((eNat .u32).all (P' ++ Q') ++ spare))] := fun q ha => by
          obtain ⟨a1, a2, a3⟩ := hA.out
          obtain ⟨p1, p2, p3⟩ := hP.out
          refine ⟨i + 1, A ++ x :: B, Q, by simp, ⟨?_, ?_, ?_⟩, by omega, by omega, ?_⟩
          · rw [← p1, ← a2]; simp; omega
          · exact insert_sorted (a2 ▸ p2) a3 ha
          · refine List.Perm.trans ?_ p3
            rw [← a2]
            simp only [List.append_assoc, List.cons_append]
            exact List.Perm.append_left _ List.perm_middle.symm
          · have := Sj.drewN q
            simpa using this
        have OUT := Lib.hid out
        clear out
        rcases List.eq_nil_or_concat A with hA0 | ⟨A', a, hA0⟩
        · have hj0 : j = 0 := by rw [← hA.out.1, hA0]; rfl
          subst hj0
          go_wp2
          go_quiet (first | (go_at_call 157; refine Calls.quiet_of_same ((hless.out _ _ _ _ rfl).mono fun _ _ ⟨a, b⟩ => ⟨a, b.symm⟩)))
          go_wp2
          go_roundw
          case rel => exact OUT.out nq (by rw [hA0]; simp)
          case measure => simp [intOf]; omega
        · rw [List.concat_eq_append] at hA0
          have hj0 : 0 < j := by rw [← hA.out.1, hA0]; simp
          have hal : A'.length + 1 = j := by rw [← hA.out.1, hA0]; simp
          have e1 : (eNat .u32).all (A ++ x :: (B ++ Q)) ++ spare = (eNat .u32).all A' ++ Value.int .u32 a :: Value.int .u32 x :: ((eNat .u32).all (B ++ Q) ++ spare) := by
            rw [hA0]; simp [all_u32]
          have hl1 : ((eNat .u32).all A').length + 1 = j := by rw [all_u32, List.length_map]; exact hal
          rw [e1] at Sj
          have hl2 := Lib.hid hl1
          have cj : wr.cell? ⟨g, j, none⟩ = some (.int .u32 x) := Sj.cell 0 rfl j (by rw [← hl2.out]; simp)
          have ck : wr.cell? ⟨g, j - 1, none⟩ = some (.int .u32 a) := Sj.cell 0 rfl (j - 1) (by rw [← hl2.out]; simp)
          have fj : wr.frozen? ⟨g, j, none⟩ = false := Sj.frozen 0 rfl j
          have fk : wr.frozen? ⟨g, j - 1, none⟩ = false := Sj.frozen 0 rfl (j - 1)
          have hSj := Lib.hid Sj
          have k1 : ((j : Int) - 1).toNat = j - 1 := by omega
          clear Sj hl1 hal
          by_cases hxa : x < a
          · go_wp2
            go_quiet (first | (go_at_call 157; refine Calls.quiet_of_same ((hless.out _ _ _ true (by simp [hxa])).mono fun _ _ ⟨a, b⟩ => ⟨a, b.symm⟩)))
            go_wp2
            go_region
            all_goals go_wp2
            go_roundw
            case rel =>
              refine ⟨j - 1, A', a :: B, by congr 1; omega, ⟨by rw [← hl2.out, all_u32]; simp, by rw [← hA.out.2.1, hA0]; simp, fun b hb => ?_⟩, by omega, ?_⟩
              · rcases List.mem_cons.1 hb with rfl | hb
                · exact hxa
                · exact hA.out.2.2 b hb
              · have h2 := ((hSj.out.drewN (nq + 1)).setCell 0 rfl j (Value.int .u32 a)).setCell 0 rfl (j - 1) (Value.int .u32 x)
                refine h2.cast ?_
                have hjj : j - 1 = ((eNat .u32).all A').length := by rw [← hl2.out]; omega
                simp only [List.set_cons_zero]
                rw [← hl2.out, Nat.add_sub_cancel, swap_cells]
                simp [all_u32]
            case measure => simp [intOf]; omega
          · go_wp2
            go_quiet (first | (go_at_call 157; refine Calls.quiet_of_same ((hless.out _ _ _ false (by simp [hxa])).mono fun _ _ ⟨a, b⟩ => ⟨a, b.symm⟩)))
            go_wp2
            go_roundw
            case rel =>
              refine OUT.out nq (fun b hb => ?_)
              rw [hA0] at hb
              have hs := hP.out.2.1
              rw [← hA.out.2.1, hA0] at hs
              rcases List.mem_append.1 hb with hb | hb
              · have := (List.pairwise_append.1 (List.pairwise_append.1 hs).1).2.2 b hb a (by simp)
                omega
              · simp at hb; omega
            case measure => simp [intOf]; omega
end
end Go.Proofs.YtnobknmhffaoeaaGreatDoor
namespace Go.Proofs.YtnobknmhffaoeaaGreatDoor
open Go.RowKit
section
variable (w : World)
set_option maxRecDepth 100000 in
set_option maxHeartbeats 1000000 in
theorem len64_u (x : Int) (h0 : 0 ≤ x) (h1 : x < 256) : Calls Tryz.prog 161 #[.int .u64 x] w fun e w' => (∃ l : Int, e = .returned (.int .i64 l)) ∧ w = w' := by
  go_enter Tryz.func161, Tryz.ntmps161
  go_wp2
  all_goals (go_ret; exact ⟨⟨_, rfl⟩, rfl⟩)
theorem len_u (x : Int) (h0 : 0 ≤ x) (h1 : x < 256) : Calls Tryz.prog 144 #[.int .u64 x] w fun e w' => (∃ l : Int, e = .returned (.int .i64 l)) ∧ w = w' := by
  have h := Lib.hid (fun w => len64_u w x h0 h1)
  clear h0 h1
  go_enter Tryz.func144, Tryz.ntmps144
  go_wp2_with (go_at_call 161; refine (h.out _).mono ?_; rintro e w' ⟨⟨l, rfl⟩, rfl⟩)
  go_ret
  exact ⟨⟨l, rfl⟩, rfl⟩
theorem ins_u32_no (A : Option Addr) (cap : Nat) : Calls Tryz.prog 151 #[.slice A 0 cap, .int .i64 0, .int .i64 0] w fun e w' => e = .returned (.tuple #[]) ∧ w = w' := by
  go_enter Tryz.func151, Tryz.ntmps151
  go_wp2
  go_loopw [6] (fun vi wr => vi = .int .i64 1 ∧ wr = w) (fun vi _ => 1)
  case atStart => exact ⟨rfl, rfl⟩
  case round =>
    obtain ⟨rfl, rfl⟩ := hrel
    go_wp2
    go_end0
    exact ⟨rfl, rfl⟩
set_option maxRecDepth 100000 in
set_option maxHeartbeats 2000000 in
theorem pdq_u32 (R : World → Prop) (A : Option Addr) (n cap : Nat) (l : Int) (hn : n ≤ 12) (h : Calls Tryz.prog 151 #[.slice A n cap, .int .i64 0, .int .i64 n] w fun e w' => e = .returned (.tuple #[]) ∧ R w') :
    Calls Tryz.prog 143 #[.slice A n cap, .int .i64 0, .int .i64 n, .int .i64 l] w fun e w' => e = .returned (.tuple #[]) ∧ R w' := by
  have hh := Lib.hid h
  clear h
  go_enter Tryz.func143, Tryz.ntmps143
  go_wp2
  go_loopw [1, 2] (fun v1 v2 wr => v1 = .int .i64 0 ∧ v2 = .int .i64 n ∧ wr = w) (fun _ _ _ => 1)
  case atStart => exact ⟨rfl, rfl, rfl⟩
  case round =>
    obtain ⟨rfl, rfl, rfl⟩ := hrel
    have k1 : (n : Int) ≤ 12 := by omega
    go_wp2_with (go_at_call 151; refine hh.out.mono ?_; rintro e w1 ⟨rfl, hR⟩)
    (try simp only [Exit.inBlock, Exit.then])
    refine bodyPost_ret (results_none rfl _ _ _) rfl ?_
    exact ⟨rfl, hR⟩
set_option maxRecDepth 100000 in
set_option maxHeartbeats 2000000 in
theorem sort_small' (R : World → Prop) (A : Option Addr) (n cap : Nat) (hn : n ≤ 12) (h : Calls Tryz.prog 151 #[.slice A n cap, .int .i64 0, .int .i64 n] w fun e w' => e = .returned (.tuple #[]) ∧ R w') :
    Calls Tryz.prog 120 #[.slice A n cap] w fun e w' => e = .returned (.tuple #[]) ∧ R w' := by
  have hl := Lib.hid (fun w => len_u w n (by omega) (by omega))
  have hp := Lib.hid (fun l => pdq_u32 w R A n cap l hn h)
  have k1 : IntKind.u64.wrap (n : Int) = (n : Int) := by simp only [IntKind.wrap, IntKind.bits, IntKind.signed]; simp; omega
  clear h
  go_enter Tryz.func120, Tryz.ntmps120
  go_wp2_with (first | (go_at_call 144; refine (hl.out _).mono ?_; rintro e w' ⟨⟨l, rfl⟩, rfl⟩) | (go_at_call 143; refine (hp.out _).mono ?_; rintro e w1 ⟨rfl, hR⟩))
  go_end0
  exact ⟨rfl, hR⟩
end
/-- slices.Sort at uint32, at N elements or fewer. -/
def SortU32 (N : Nat) : Prop := ∀ (w : World) (v : Value) (xs : List Nat) (A : Blocks), Own (eNat .u32) 53 v xs A → HC w A → xs.length ≤ N →
  Calls Tryz.prog 120 #[v] w fun e w' => e = .returned (.tuple #[]) ∧ ∃ (ys : List Nat) (A' : Blocks), ys.Perm xs ∧ ys.Pairwise (· ≤ ·) ∧ Own (eNat .u32) 53 v ys A' ∧ St w (FP w A) w' A'
theorem sort_small : SortU32 12 := by
  intro w v xs A O H hn
  by_cases h0 : xs = []
  · subst h0
    obtain ⟨B, c, rfl, _, _⟩ := O.slice
    refine (sort_small' w (fun w' => w = w') B 0 c (by omega) (ins_u32_no w B c)).mono ?_
    rintro e w' ⟨rfl, rfl⟩
    exact ⟨rfl, [], A, .refl _, List.Pairwise.nil, O, H.st⟩
  · obtain ⟨b, cap, spare, rfl, rfl, h1, h2, h3⟩ := O.form h0
    have hl : 1 ≤ xs.length := by cases xs with
      | nil => exact absurd rfl h0
      | cons _ _ => simp
    refine (sort_small' w _ _ xs.length cap hn (ins_u32 w b cap xs spare (by omega) hl H)).mono ?_
    rintro e w' ⟨rfl, ys, hp, hs, S⟩
    refine ⟨rfl, ys, _, hp, hs, ?_, S⟩
    refine .inr ⟨b, cap, spare, by rw [hp.length_eq], rfl, by rw [hp.length_eq]; exact h1, h2, ?_⟩
    rw [← h3, List.length_append, List.length_append, Lay.all_len, Lay.all_len, hp.length_eq]
end Go.Proofs.YtnobknmhffaoeaaGreatDoor
