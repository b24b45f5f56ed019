/- The plain law of a row of bits in words. No program is named. bits.Row: what each call does. bits.Row, more: the search for a bit, and a new row. pool: blocks that are held: what each call does. -/
import Derived.Laws.Bits64b
import Derived.Laws.BitsLemmas
import Derived.Lib.TrailingZeros
import Derived.Test.YtnobknmhffaoeaaGreatDoorProg
import Derived.Test.YtnobknmhffaoeaaGreatDoorQBase
set_option linter.unusedVariables false
set_option linter.unusedSimpArgs false
namespace Go.Proofs.YtnobknmhffaoeaaGreatDoor
def tb (W : List Nat) (i : Nat) : Bool := (W.getD (i / 64) 0).testBit (i % 64)
structure BW (n : Nat) (W : List Nat) (hs : List Bool) : Prop where
  len : hs.length = n
  wl : W.length = (n + 63) / 64
  lt : ∀ x ∈ W, x < 18446744073709551616
  tb : ∀ i, i < n → hs[i]? = some (tb W i)
/-- The first place from one on that is told so. -/
def firstFrom (hs : List Bool) (v : Bool) (a : Nat) : Option Nat := (List.range hs.length).find? fun i => decide (a ≤ i) && (hs.getD i (!v) == v)

theorem find_range (p : Nat → Bool) (n i : Nat) (hi : i < n) (h : p i = true) (hl : ∀ j, j < i → p j = false) : (List.range n).find? p = some i := by
  rw [List.find?_range_eq_some]
  exact ⟨h, by simpa using hi, fun j hj => by simp [hl j hj]⟩
theorem find_range_none (p : Nat → Bool) (n : Nat) (hl : ∀ j, j < n → p j = false) : (List.range n).find? p = none := by
  rw [List.find?_eq_none]
  intro x hx; simp [hl x (List.mem_range.1 hx)]
theorem BW.getD {n : Nat} {W : List Nat} {hs : List Bool} (B : BW n W hs) (i : Nat) (d : Bool) (hi : i < n) : hs.getD i d = Go.Proofs.YtnobknmhffaoeaaGreatDoor.tb W i := by
  rw [List.getD_eq_getElem?_getD, B.tb i hi]; rfl
theorem BW.first {n : Nat} {W : List Nat} {hs : List Bool} (B : BW n W hs) (v : Bool) (a i : Nat) (ha : a ≤ i) (hi : i < n) (h : Go.Proofs.YtnobknmhffaoeaaGreatDoor.tb W i = v) (hl : ∀ j, a ≤ j → j < i → Go.Proofs.YtnobknmhffaoeaaGreatDoor.tb W j ≠ v) : firstFrom hs v a = some i := by
  unfold firstFrom
  rw [B.len]
  refine find_range _ _ _ hi (by rw [B.getD i _ hi, h]; simp [ha]) (fun j hj => ?_)
  rw [B.getD j _ (by omega)]
  by_cases haj : a ≤ j
  · have := hl j haj hj
    simp [this]
  · simp [haj]
theorem BW.first_none {n : Nat} {W : List Nat} {hs : List Bool} (B : BW n W hs) (v : Bool) (a : Nat) (hl : ∀ j, a ≤ j → j < n → Go.Proofs.YtnobknmhffaoeaaGreatDoor.tb W j ≠ v) : firstFrom hs v a = none := by
  unfold firstFrom
  rw [B.len]
  refine find_range_none _ _ (fun j hj => ?_)
  rw [B.getD j _ hj]
  by_cases haj : a ≤ j
  · have := hl j haj hj
    simp [this]
  · simp [haj]
theorem ones_bit (r : Nat) : Nat.testBit 18446744073709551615 r = decide (r < 64) := by
  have h := Nat.testBit_two_pow_sub_one 64 r
  rwa [show (2 : Nat) ^ 64 - 1 = 18446744073709551615 from rfl] at h
theorem pow_lt64 {r : Nat} (hr : r < 64) : 2 ^ r < 18446744073709551616 := by
  have h := Nat.pow_lt_pow_right (a := 2) (by omega) hr
  rwa [show (2 : Nat) ^ 64 = 18446744073709551616 from rfl] at h
theorem ipow (r : Nat) : (2 : Int) ^ r = ((2 ^ r : Nat) : Int) := by rw [Int.natCast_pow]; rfl
theorem wrap_pow {r : Nat} (hr : r < 64) : IntKind.u64.wrap (2 ^ r) = ((2 ^ r : Nat) : Int) := by
  have h := pow_lt64 hr
  rw [IntKind.wrap_u64, ipow]
  generalize 2 ^ r = p at *
  omega
theorem ctz_bit (x : Nat) (h0 : x ≠ 0) (h : x < 2 ^ 64) : x.testBit (Lib.ctz 64 x) = true ∧ Lib.ctz 64 x < 64 ∧ ∀ j, j < Lib.ctz 64 x → x.testBit j = false := by
  obtain ⟨m, hm, hk⟩ := Lib.ctzFrom_spec 64 x (by omega) h
  have e : Lib.ctz 64 x = Lib.ctzFrom 64 x := by simp [Lib.ctz, h0]
  rw [e]
  generalize Lib.ctzFrom 64 x = k at *
  subst hm
  refine ⟨?_, hk, fun j hj => ?_⟩
  · rw [Nat.testBit_two_pow_mul]; simp
  · rw [Nat.testBit_two_pow_mul]; simp; omega
theorem bits_xor_turn (x : Nat) (v : Bool) (hx : x < 18446744073709551616) : ∃ y : Nat, bits .xor .u64 (x : Int) ((if v then 0 else 18446744073709551615 : Nat) : Int) = (y : Int) ∧ y < 18446744073709551616 ∧ ∀ r, r < 64 → y.testBit r = (x.testBit r == v) := by
  refine ⟨x ^^^ (if v then 0 else 18446744073709551615), ?_, ?_, fun r hr => ?_⟩
  · exact bits_xor_u64_nat x _ hx (by split <;> omega)
  · exact Nat.xor_lt_two_pow (n := 64) (by omega) (by split <;> omega)
  · rw [Nat.testBit_xor]
    cases v
    · rw [if_neg (by simp), ones_bit]; simp [hr]
    · rw [if_pos rfl]; simp
theorem bits_and_shl (y r : Nat) (hy : y < 18446744073709551616) (hr : r < 64) : ∃ z : Nat, bits .and .u64 (y : Int) (IntKind.u64.wrap (18446744073709551615 * 2 ^ r)) = (z : Int) ∧ z < 18446744073709551616 ∧ ∀ q, q < 64 → z.testBit q = (y.testBit q && decide (r ≤ q)) := by
  have e : IntKind.u64.wrap (18446744073709551615 * 2 ^ r) = ((18446744073709551615 * 2 ^ r % 18446744073709551616 : Nat) : Int) := by
    rw [IntKind.wrap_u64, ipow]
    generalize 2 ^ r = p at *
    omega
  refine ⟨y &&& (18446744073709551615 * 2 ^ r % 18446744073709551616), ?_, ?_, fun q hq => ?_⟩
  · rw [e, bits_and_u64_nat y _ hy (Nat.mod_lt _ (by omega))]
  · exact Nat.lt_of_le_of_lt Nat.and_le_left hy
  · rw [Nat.testBit_and]
    congr 1
    have h1 : (18446744073709551616 : Nat) = 2 ^ 64 := by decide
    rw [h1, Nat.testBit_mod_two_pow, Nat.testBit_mul_two_pow]
    simp only [hq, decide_true, Bool.true_and]
    by_cases hle : r ≤ q
    · rw [ones_bit]; simp [hle]; omega
    · simp [hle]
theorem bits_or_one (x r : Nat) (hx : x < 18446744073709551616) (hr : r < 64) : ∃ y : Nat, bits .or .u64 (x : Int) (IntKind.u64.wrap (2 ^ r)) = (y : Int) ∧ y < 18446744073709551616 ∧ ∀ q, q < 64 → y.testBit q = (x.testBit q || decide (q = r)) := by
  have hlt : 2 ^ r < 18446744073709551616 := pow_lt64 hr
  have e : IntKind.u64.wrap (2 ^ r) = ((2 ^ r : Nat) : Int) := wrap_pow hr
  refine ⟨x ||| 2 ^ r, ?_, ?_, fun q hq => ?_⟩
  · rw [e]; exact (bits_nat .u64 64 (by decide) (fun n h0 h1 => by rw [IntKind.wrap_u64]; omega) x (2 ^ r) (by omega) (by omega)).2
  · exact Nat.or_lt_two_pow (n := 64) (by omega) (by omega)
  · rw [Nat.testBit_or, Nat.testBit_two_pow]
    congr 1
    simp [eq_comm]
theorem bits_andNot_one (x r : Nat) (hx : x < 18446744073709551616) (hr : r < 64) : ∃ y : Nat, bits .andNot .u64 (x : Int) (IntKind.u64.wrap (2 ^ r)) = (y : Int) ∧ y < 18446744073709551616 ∧ ∀ q, q < 64 → y.testBit q = (x.testBit q && !decide (q = r)) := by
  have hlt : 2 ^ r < 18446744073709551616 := pow_lt64 hr
  have e : IntKind.u64.wrap (2 ^ r) = ((2 ^ r : Nat) : Int) := wrap_pow hr
  let Y : BitVec 64 := BitVec.ofInt 64 (x : Int) &&& ~~~ BitVec.ofInt 64 ((2 ^ r : Nat) : Int)
  refine ⟨Y.toNat, ?_, Y.isLt, fun q hq => ?_⟩
  · rw [e]
    show IntKind.u64.wrap (Y.toNat : Int) = _
    rw [IntKind.wrap_u64]
    have := Y.isLt
    omega
  · have h1 : Y.toNat.testBit q = Y.getLsbD q := rfl
    rw [h1]
    show (BitVec.ofInt 64 (x : Int) &&& ~~~ BitVec.ofInt 64 ((2 ^ r : Nat) : Int)).getLsbD q = _
    rw [BitVec.getLsbD_and, BitVec.getLsbD_not, BitVec.ofInt_natCast, BitVec.ofInt_natCast, BitVec.getLsbD_ofNat, BitVec.getLsbD_ofNat, Nat.testBit_two_pow]
    simp [hq, eq_comm]
theorem tb_set (W : List Nat) (i j y : Nat) (hi : i / 64 < W.length) : tb (W.set (i / 64) y) j = if j / 64 = i / 64 then y.testBit (j % 64) else tb W j := by
  unfold tb
  rw [List.getD_eq_getElem?_getD, List.getD_eq_getElem?_getD, List.getElem?_set]
  by_cases h : i / 64 = j / 64
  · rw [if_pos h, if_pos (by omega), if_pos h.symm]; rfl
  · rw [if_neg h, if_neg (fun e => h e.symm)]
/-- One bit turned. -/
theorem BW.set_ {n : Nat} {W : List Nat} {hs : List Bool} (B : BW n W hs) (i y : Nat) (b : Bool) (hi : i < n) (hy : y < 18446744073709551616)
    (hb : ∀ q, q < 64 → y.testBit q = if q = i % 64 then b else (W.getD (i / 64) 0).testBit q) : BW n (W.set (i / 64) y) (hs.set i b) := by
  have hil : i / 64 < W.length := by rw [B.wl]; omega
  refine ⟨by simp [B.len], by simp [B.wl], fun x hx => ?_, fun j hj => ?_⟩
  · rcases List.mem_or_eq_of_mem_set hx with h | h
    · exact B.lt x h
    · omega
  · rw [tb_set W i j y hil, List.getElem?_set]
    by_cases h : i = j
    · subst h
      rw [if_pos rfl, if_pos (by rw [B.len]; exact hi), if_pos rfl, hb _ (Nat.mod_lt _ (by omega)), if_pos rfl]
    · rw [if_neg h, B.tb j hj]
      by_cases h2 : j / 64 = i / 64
      · rw [if_pos h2, hb _ (Nat.mod_lt _ (by omega)), if_neg (by omega)]
        unfold Go.Proofs.YtnobknmhffaoeaaGreatDoor.tb; rw [h2]
      · rw [if_neg h2]
end Go.Proofs.YtnobknmhffaoeaaGreatDoor
namespace Go.Proofs.YtnobknmhffaoeaaGreatDoor
open Go.RowKit
def encU (x : Nat) : List Value := [.int .u64 x]
theorem encU_len (x : Nat) : (encU x).length = 1 := rfl
/-- The table of math/bits, as its variable's block holds it. -/
def TabO (o : Obj) : Prop := ∃ c e fr, o = .cells c e fr ∧ ∀ j, j < 64 → c[j]? = some (.int .u8 (Lib.deBruijn64tab.getD j 0))
def bitsB (t : Obj) (g b : Nat) (W : List Nat) (n c : Nat) : Blocks :=
  [(g, C 158 [.int .i64 n, .int .i64 c, .slice (some ⟨b, 0, none⟩) W.length W.length]), (b, C 82 (W.flatMap encU)), (1, t)]
set_option maxHeartbeats 400000 in
theorem bits_len (t : Obj) (g b : Nat) (W : List Nat) (n c : Nat) (w : World) (H : HC w (bitsB t g b W n c)) :
    Calls Tryz.prog 105 #[.pointer (some ⟨g, 0, none⟩)] w fun e w' => e = .returned (.int .i64 n) ∧ w = w' := by
  have S := H.st
  unfold bitsB at S
  have c0 := S.cell 0 rfl 0 rfl
  go_enter Tryz.func105, Tryz.ntmps105
  go_wp2
  go_ret
  exact ⟨rfl, rfl⟩
set_option maxHeartbeats 400000 in
theorem bits_count (t : Obj) (g b : Nat) (W : List Nat) (n c : Nat) (w : World) (H : HC w (bitsB t g b W n c)) :
    Calls Tryz.prog 132 #[.pointer (some ⟨g, 0, none⟩)] w fun e w' => e = .returned (.int .i64 c) ∧ w = w' := by
  have S := H.st
  unfold bitsB at S
  have c0 := S.cell 0 rfl 1 rfl
  go_enter Tryz.func132, Tryz.ntmps132
  go_wp2
  go_ret
  exact ⟨rfl, rfl⟩
/-- What 'there' tells. -/
def thereOf (i : Int) (n : Nat) : Int := if i < 0 ∨ (n : Int) ≤ i then 4 else 0
set_option maxHeartbeats 400000 in
theorem bits_there (t : Obj) (g b : Nat) (W : List Nat) (n c : Nat) (i : Int) (w : World) (H : HC w (bitsB t g b W n c)) (hn : 0 < n) :
    Calls Tryz.prog 90 #[.pointer (some ⟨g, 0, none⟩), .int .i64 i] w fun e w' => e = .returned (.int .i64 (thereOf i n)) ∧ w = w' := by
  have S := H.st
  unfold bitsB at S
  have c0 := S.cell 0 rfl 0 rfl
  have hlen := Lib.hid (bits_len t g b W n c w H)
  have hn0 : ¬ ((n : Int) = 0) := by omega
  have hfin : Hid (thereOf i n = if i < 0 ∨ (n : Int) ≤ i then 4 else 0) := rfl
  by_cases h0 : i < 0
  · go_enter Tryz.func90, Tryz.ntmps90
    go_wp2_with (go_at_call 105; refine hlen.out.mono ?_; rintro e w' ⟨rfl, rfl⟩)
    go_ret
    refine ⟨?_, rfl⟩
    rw [hfin.out, if_pos (.inl h0)]; rfl
  · by_cases h1 : (n : Int) ≤ i
    · go_enter Tryz.func90, Tryz.ntmps90
      go_wp2_with (go_at_call 105; refine hlen.out.mono ?_; rintro e w' ⟨rfl, rfl⟩)
      go_ret
      refine ⟨?_, rfl⟩
      rw [hfin.out, if_pos (.inr h1)]; rfl
    · go_enter Tryz.func90, Tryz.ntmps90
      go_wp2_with (go_at_call 105; refine hlen.out.mono ?_; rintro e w' ⟨rfl, rfl⟩)
      go_ret
      refine ⟨?_, rfl⟩
      rw [hfin.out, if_neg (by omega)]; rfl

set_option maxHeartbeats 1000000 in
theorem tz64_core (x k idx : Nat) (w : World) (hx0 : ((x : Int) == 0) = false)
    (key : IntKind.u64.wrap (bits BinOp.and IntKind.u64 (x : Int) (IntKind.u64.wrap (-(x : Int))) * 285870213051353865) / 288230376151711744 = (idx : Int))
    (hi : idx < 64) (hk : k < 64) (hcell : w.cell? ⟨1, idx, none⟩ = some (.int .u8 k)) :
    Calls Tryz.prog 149 #[.int .u64 x] w fun e w' => e = .returned (.int .i64 k) ∧ w = w' := by
  go_enter Tryz.func149, Tryz.ntmps149
  go_wp2_with (simp only [key])
  go_ret
  exact ⟨rfl, rfl⟩
theorem tz64_key (x a : Nat) (hx : x < 18446744073709551616) (hx0 : x ≠ 0) (hlow : x &&& (18446744073709551616 - x) = a) :
    IntKind.u64.wrap (bits BinOp.and IntKind.u64 (x : Int) (IntKind.u64.wrap (-(x : Int))) * 285870213051353865) / 288230376151711744 = ((a * 285870213051353865 % 18446744073709551616 / 288230376151711744 : Nat) : Int) := by
  have e1 : IntKind.u64.wrap (-(x : Int)) = ((18446744073709551616 - x : Nat) : Int) := by rw [IntKind.wrap_u64]; omega
  rw [e1, bits_and_u64_nat x _ hx (by omega), hlow, IntKind.wrap_u64]
  omega
/-- math/bits.TrailingZeros64 of a number that is not 0. -/
theorem bits_tz (t : Obj) (ht : TabO t) (x : Nat) (hx0 : x ≠ 0) (hx : x < 18446744073709551616) (w : World) (hT : w.heap[1]? = some t) :
    Calls Tryz.prog 149 #[.int .u64 x] w fun e w' => e = .returned (.int .i64 (Lib.ctz 64 x)) ∧ w = w' := by
  obtain ⟨hlow, hk⟩ := Lib.lowest_bit 64 x hx0 hx
  obtain ⟨hi, htab⟩ := Lib.deBruijn64_at _ hk
  obtain ⟨c, e, fr, rfl, hc⟩ := ht
  have hcell := hc _ hi
  rw [htab] at hcell
  exact tz64_core x _ _ w (by simp; omega) (tz64_key x _ hx hx0 hlow) hi hk (by simp [World.cell?, hT, hcell])

theorem row_getD {n : Nat} {W : List Nat} {hs : List Bool} (B : BW n W hs) (i : Nat) (hi : i / 64 < W.length) : W[i / 64]? = some (W.getD (i / 64) 0) ∧ W.getD (i / 64) 0 < 18446744073709551616 := by
  have h : W[i / 64]? = some (W.getD (i / 64) 0) := by simp [List.getD, List.getElem?_eq_getElem hi]
  exact ⟨h, B.lt _ (List.mem_of_getElem? h)⟩
set_option maxHeartbeats 400000 in
theorem bits_has (t : Obj) (g b : Nat) (W : List Nat) (n c i : Nat) (hs : List Bool) (w : World) (H : HC w (bitsB t g b W n c)) (B : BW n W hs) (hi : i < n) (hn : n ≤ 65536) :
    Calls Tryz.prog 91 #[.pointer (some ⟨g, 0, none⟩), .int .i64 i] w fun e w' => e = .returned (.bool (tb W i)) ∧ w = w' := by
  have S := H.st
  unfold bitsB at S
  have hl : i / 64 < W.length := by rw [B.wl]; omega
  obtain ⟨hx, hx64⟩ := row_getD B i hl
  have htb : Hid (tb W i = (W.getD (i / 64) 0).testBit (i % 64)) := rfl
  generalize W.getD (i / 64) 0 = x at *
  have c0 := S.cell 0 rfl 2 rfl
  have c1 := S.cell 1 rfl (i / 64 * 1 + 0) ((fm_get encU_len W (i / 64) 0 x hx (by omega)).trans rfl)
  have hth := Lib.hid (bits_there t g b W n c i w H (by omega))
  rw [show thereOf i n = 0 by unfold thereOf; rw [if_neg (by omega)]] at hth
  simp only [Nat.mul_one, Nat.add_zero] at c1
  have hx0 : (0:Int) ≤ (x : Int) := by omega
  clear hx
  go_enter Tryz.func91, Tryz.ntmps91
  go_wp2_with (go_at_call 90; refine hth.out.mono ?_; rintro e w' ⟨rfl, rfl⟩)
  go_ret
  refine ⟨?_, rfl⟩
  rw [htb.out]
  have h1 : (x : Int) / 2 ^ (i % 64) = ((x / 2 ^ (i % 64) : Nat) : Int) := by rw [ipow]; exact (Int.natCast_ediv _ _).symm
  have h2 : bits BinOp.and IntKind.u64 ((x : Int) / 2 ^ (i % 64)) 1 = ((x / 2 ^ (i % 64) % 2 : Nat) : Int) := by
    rw [h1]
    have := bits_and_u64_nat (x / 2 ^ (i % 64)) 1 (Nat.lt_of_le_of_lt (Nat.div_le_self _ _) hx64) (by omega)
    rw [show ((1 : Nat) : Int) = 1 from rfl] at this
    rw [this, Nat.and_one_is_mod]
  show Ending.returned (Value.bool (bits BinOp.and IntKind.u64 ((x : Int) / 2 ^ (i % 64)) 1 == 1)) = _
  rw [h2, Nat.testBit_eq_decide_div_mod_eq]
  congr 2
  rw [Bool.eq_iff_iff]; simp; omega
set_option maxHeartbeats 400000 in
/-- Outside there is nothing. -/
theorem bits_has_out (t : Obj) (g b : Nat) (W : List Nat) (n c : Nat) (i : Int) (w : World) (H : HC w (bitsB t g b W n c)) (hn0 : 0 < n) (hi : (n : Int) ≤ i) :
    Calls Tryz.prog 91 #[.pointer (some ⟨g, 0, none⟩), .int .i64 i] w fun e w' => e = .returned (.bool false) ∧ w = w' := by
  have hth := Lib.hid (bits_there t g b W n c i w H hn0)
  rw [show thereOf i n = 4 by unfold thereOf; rw [if_pos (.inr hi)]] at hth
  go_enter Tryz.func91, Tryz.ntmps91
  go_wp2_with (go_at_call 90; refine hth.out.mono ?_; rintro e w' ⟨rfl, rfl⟩)
  go_ret
  exact ⟨rfl, rfl⟩
set_option maxHeartbeats 400000 in
/-- Set: an error, and nothing turns. -/
theorem bits_set_no (t : Obj) (g b : Nat) (W : List Nat) (n c : Nat) (i : Int) (hs : List Bool) (w : World) (H : HC w (bitsB t g b W n c)) (B : BW n W hs) (hn0 : 0 < n) (hn : n ≤ 65536) (hi0 : 0 ≤ i) (h : (n : Int) ≤ i ∨ ∃ k : Nat, i = k ∧ k < n ∧ tb W k = true) :
    Calls Tryz.prog 72 #[.pointer (some ⟨g, 0, none⟩), .int .i64 i] w fun e w' => e = .returned (.int .i64 (if (n : Int) ≤ i then 4 else 10)) ∧ w = w' := by
  have hth := Lib.hid (bits_there t g b W n c i w H hn0)
  rcases h with h | ⟨k, rfl, hk, htb⟩
  · rw [show thereOf i n = 4 by unfold thereOf; rw [if_pos (.inr h)]] at hth
    rw [if_pos h]
    clear h
    go_enter Tryz.func72, Tryz.ntmps72
    go_wp2_with (go_at_call 90; refine hth.out.mono ?_; rintro e w' ⟨rfl, rfl⟩)
    go_ret
    exact ⟨rfl, rfl⟩
  · rw [show thereOf k n = 0 by unfold thereOf; rw [if_neg (by omega)]] at hth
    have hhas := Lib.hid (bits_has t g b W n c k hs w H B hk hn)
    rw [htb] at hhas
    rw [if_neg (by omega)]
    clear htb
    go_enter Tryz.func72, Tryz.ntmps72
    go_wp2_with (first | (go_at_call 90; refine hth.out.mono ?_; rintro e w' ⟨rfl, rfl⟩) | (go_at_call 91; refine hhas.out.mono ?_; rintro e w' ⟨rfl, rfl⟩))
    go_ret
    exact ⟨rfl, rfl⟩
set_option maxRecDepth 100000 in
set_option maxHeartbeats 400000 in
theorem bits_set (t : Obj) (g b : Nat) (W : List Nat) (n c i : Nat) (hs : List Bool) (w : World) (H : HC w (bitsB t g b W n c)) (B : BW n W hs) (hi : i < n) (hn : n ≤ 65536) (hc : c ≤ 65536) (hno : tb W i = false) :
    Calls Tryz.prog 72 #[.pointer (some ⟨g, 0, none⟩), .int .i64 i] w fun e w' => e = .returned (.int .i64 0) ∧
      ∃ W', BW n W' (hs.set i true) ∧ St w (FP w (bitsB t g b W n c)) w' (bitsB t g b W' n (c + 1)) := by
  have S := H.st
  unfold bitsB at S
  have hl : i / 64 < W.length := by rw [B.wl]; omega
  obtain ⟨hx, hx64⟩ := row_getD B i hl
  have hth := Lib.hid (bits_there t g b W n c i w H (by omega))
  have hhas := Lib.hid (bits_has t g b W n c i hs w H B hi hn)
  rw [hno] at hhas
  obtain ⟨y, ey, hy, hyb⟩ := bits_or_one (W.getD (i / 64) 0) (i % 64) hx64 (Nat.mod_lt _ (by omega))
  have hB := B.set_ i y true hi hy (fun q hq => by
    rw [hyb q hq]
    by_cases e : q = i % 64 <;> simp [e])
  have hr : i % 64 < 64 := Nat.mod_lt _ (by omega)
  generalize W.getD (i / 64) 0 = x at *
  have c0 := S.cell 0 rfl 2 rfl
  have c1 := S.cell 1 rfl (i / 64 * 1 + 0) ((fm_get encU_len W (i / 64) 0 x hx (by omega)).trans rfl)
  have E1 := Lib.hid (fm_set encU_len W (i / 64) 0 x y (.int .u64 y) hx (by omega) rfl)
  have Z1 := Lib.hid (fm_length encU_len W)
  rw [show thereOf i n = 0 by unfold thereOf; rw [if_neg (by omega)]] at hth
  simp only [Nat.mul_one, Nat.add_zero] at c1 E1 Z1
  have hx0 : (0:Int) ≤ (x : Int) := by omega
  have k1 : IntKind.i64.wrap ((i : Int) / 64) = (i : Int) / 64 := IntWalk.i64_in _ (by omega)
  have k2 : (0 : Int) ≤ (i : Int) / 64 := by omega
  have k3 : (i : Int) / 64 < (W.length : Int) := by omega
  have k4 : ((i : Int) / 64).toNat = i / 64 := by omega
  have k5 : (i : Int).tmod 64 = ((i % 64 : Nat) : Int) := by rw [Int.tmod_eq_emod_of_nonneg (by omega)]; omega
  have hwl : Hid ((W.set (i / 64) y).length = W.length) := by show _ = _; simp
  clear hx hno hyb
  generalize i % 64 = r at *
  have K1 := Lib.hid k1; have K4 := Lib.hid k4; have K5 := Lib.hid k5; have EY := Lib.hid ey
  clear k1 k4 k5 ey
  go_enter Tryz.func72, Tryz.ntmps72
  go_wp2_with (first | (go_at_call 90; refine hth.out.mono ?_; rintro e w' ⟨rfl, rfl⟩) | (go_at_call 91; refine hhas.out.mono ?_; rintro e w' ⟨rfl, rfl⟩))
  have k1 := K1.out; have k4 := K4.out; have k5 := K5.out; have ey := EY.out
  go_still_tail 13, (by kernel_rfl)
  clear k1 k4 k5 ey
  refine wpl_set rfl _ _ _ rfl _ _ rfl _ rfl Tryz.sizeOf82 S.drew 1 _ _ rfl (by rw [Z1.out]; exact hl) rfl ?_
  intro w2 S2
  replace S2 : St _ _ w2 [_, (b, C _ (List.flatMap encU (W.set (i / 64) y))), _] := E1.out ▸ S2
  have d1 := S2.cell 0 rfl 1 rfl
  go_wp2_with (refine wpl_set rfl _ _ _ rfl _ _ rfl _ rfl Tryz.sizeOf3 S2 0 _ _ rfl (by simp) rfl ?_)
  intro w3 S3
  go_wp2
  go_ret
  refine ⟨rfl, _, hB, ?_⟩
  unfold bitsB
  rw [hwl.out]
  exact S3
set_option maxHeartbeats 400000 in
/-- Clear: an error, and nothing turns. -/
theorem bits_clear_no (t : Obj) (g b : Nat) (W : List Nat) (n c : Nat) (i : Int) (hs : List Bool) (w : World) (H : HC w (bitsB t g b W n c)) (B : BW n W hs) (hn0 : 0 < n) (hn : n ≤ 65536) (hi0 : 0 ≤ i) (h : (n : Int) ≤ i ∨ ∃ k : Nat, i = k ∧ k < n ∧ tb W k = false) :
    Calls Tryz.prog 101 #[.pointer (some ⟨g, 0, none⟩), .int .i64 i] w fun e w' => e = .returned (.int .i64 (if (n : Int) ≤ i then 4 else 9)) ∧ w = w' := by
  have hth := Lib.hid (bits_there t g b W n c i w H hn0)
  rcases h with h | ⟨k, rfl, hk, htb⟩
  · rw [show thereOf i n = 4 by unfold thereOf; rw [if_pos (.inr h)]] at hth
    rw [if_pos h]
    clear h
    go_enter Tryz.func101, Tryz.ntmps101
    go_wp2_with (go_at_call 90; refine hth.out.mono ?_; rintro e w' ⟨rfl, rfl⟩)
    go_ret
    exact ⟨rfl, rfl⟩
  · rw [show thereOf k n = 0 by unfold thereOf; rw [if_neg (by omega)]] at hth
    have hhas := Lib.hid (bits_has t g b W n c k hs w H B hk hn)
    rw [htb] at hhas
    rw [if_neg (by omega)]
    clear htb
    go_enter Tryz.func101, Tryz.ntmps101
    go_wp2_with (first | (go_at_call 90; refine hth.out.mono ?_; rintro e w' ⟨rfl, rfl⟩) | (go_at_call 91; refine hhas.out.mono ?_; rintro e w' ⟨rfl, rfl⟩))
    go_ret
    exact ⟨rfl, rfl⟩
set_option maxRecDepth 100000 in
set_option maxHeartbeats 400000 in
theorem bits_clear (t : Obj) (g b : Nat) (W : List Nat) (n c i : Nat) (hs : List Bool) (w : World) (H : HC w (bitsB t g b W n c)) (B : BW n W hs) (hi : i < n) (hn : n ≤ 65536) (hc : c ≤ 65536) (hc0 : 0 < c) (hyes : tb W i = true) :
    Calls Tryz.prog 101 #[.pointer (some ⟨g, 0, none⟩), .int .i64 i] w fun e w' => e = .returned (.int .i64 0) ∧
      ∃ W', BW n W' (hs.set i false) ∧ St w (FP w (bitsB t g b W n c)) w' (bitsB t g b W' n (c - 1)) := by
  have S := H.st
  unfold bitsB at S
  have hl : i / 64 < W.length := by rw [B.wl]; omega
  obtain ⟨hx, hx64⟩ := row_getD B i hl
  have hth := Lib.hid (bits_there t g b W n c i w H (by omega))
  have hhas := Lib.hid (bits_has t g b W n c i hs w H B hi hn)
  rw [hyes] at hhas
  obtain ⟨y, ey, hy, hyb⟩ := bits_andNot_one (W.getD (i / 64) 0) (i % 64) hx64 (Nat.mod_lt _ (by omega))
  have hB := B.set_ i y false hi hy (fun q hq => by
    rw [hyb q hq]
    by_cases e : q = i % 64 <;> simp [e])
  have hr : i % 64 < 64 := Nat.mod_lt _ (by omega)
  generalize W.getD (i / 64) 0 = x at *
  have c0 := S.cell 0 rfl 2 rfl
  have c1 := S.cell 1 rfl (i / 64 * 1 + 0) ((fm_get encU_len W (i / 64) 0 x hx (by omega)).trans rfl)
  have E1 := Lib.hid (fm_set encU_len W (i / 64) 0 x y (.int .u64 y) hx (by omega) rfl)
  have Z1 := Lib.hid (fm_length encU_len W)
  rw [show thereOf i n = 0 by unfold thereOf; rw [if_neg (by omega)]] at hth
  simp only [Nat.mul_one, Nat.add_zero] at c1 E1 Z1
  have hx0 : (0:Int) ≤ (x : Int) := by omega
  have k1 : IntKind.i64.wrap ((i : Int) / 64) = (i : Int) / 64 := IntWalk.i64_in _ (by omega)
  have k2 : (0 : Int) ≤ (i : Int) / 64 := by omega
  have k3 : (i : Int) / 64 < (W.length : Int) := by omega
  have k4 : ((i : Int) / 64).toNat = i / 64 := by omega
  have k5 : (i : Int).tmod 64 = ((i % 64 : Nat) : Int) := by rw [Int.tmod_eq_emod_of_nonneg (by omega)]; omega
  have hwl : Hid ((W.set (i / 64) y).length = W.length) := by show _ = _; simp
  clear hx hyes hyb
  generalize i % 64 = r at *
  have K1 := Lib.hid k1; have K4 := Lib.hid k4; have K5 := Lib.hid k5; have EY := Lib.hid ey
  clear k1 k4 k5 ey
  go_enter Tryz.func101, Tryz.ntmps101
  go_wp2_with (first | (go_at_call 90; refine hth.out.mono ?_; rintro e w' ⟨rfl, rfl⟩) | (go_at_call 91; refine hhas.out.mono ?_; rintro e w' ⟨rfl, rfl⟩))
  have k1 := K1.out; have k4 := K4.out; have k5 := K5.out; have ey := EY.out
  go_still_tail 13, (by kernel_rfl)
  clear k1 k4 k5 ey
  refine wpl_set rfl _ _ _ rfl _ _ rfl _ rfl Tryz.sizeOf82 S.drew 1 _ _ rfl (by rw [Z1.out]; exact hl) rfl ?_
  intro w2 S2
  replace S2 : St _ _ w2 [_, (b, C _ (List.flatMap encU (W.set (i / 64) y))), _] := E1.out ▸ S2
  have d1 := S2.cell 0 rfl 1 rfl
  go_wp2_with (refine wpl_set rfl _ _ _ rfl _ _ rfl _ rfl Tryz.sizeOf3 S2 0 _ _ rfl (by simp) rfl ?_)
  intro w3 S3
  go_wp2
  go_ret
  refine ⟨rfl, _, hB, ?_⟩
  unfold bitsB
  rw [hwl.out, show ((c - 1 : Nat) : Int) = (c : Int) - 1 by omega]
  exact S3
end Go.Proofs.YtnobknmhffaoeaaGreatDoor
namespace Go.Proofs.YtnobknmhffaoeaaGreatDoor
open Go.RowKit
/-- What seek tells: the first place that is told so; or none. -/
def SeekEnd (hs : List Bool) (v : Bool) (a : Nat) (e : Ending) : Prop :=
  (∃ i : Nat, firstFrom hs v a = some i ∧ e = .returned (.tuple #[.int .i64 i, .bool true])) ∨ (firstFrom hs v a = none ∧ ∃ i : Int, e = .returned (.tuple #[.int .i64 i, .bool false]))
/-- The word at k, turned, and cut at its front where it is the first one. -/
theorem seek_word (W : List Nat) (v : Bool) (a k : Nat) (hx : W.getD k 0 < 18446744073709551616) (hk : a / 64 ≤ k) : ∃ y z : Nat, bits .xor .u64 ((W.getD k 0 : Nat) : Int) ((if v then 0 else 18446744073709551615 : Nat) : Int) = (y : Int) ∧
    (k = a / 64 → bits .and .u64 (y : Int) (IntKind.u64.wrap (18446744073709551615 * 2 ^ (a % 64))) = (z : Int)) ∧ (k ≠ a / 64 → z = y) ∧ z < 18446744073709551616 ∧
    ∀ q, q < 64 → (z.testBit q = true ↔ a ≤ k * 64 + q ∧ tb W (k * 64 + q) = v) := by
  obtain ⟨y, e1, hy, hyb⟩ := bits_xor_turn (W.getD k 0) v hx
  have htb : ∀ q, q < 64 → tb W (k * 64 + q) = (W.getD k 0).testBit q := fun q hq => by
    unfold tb; rw [show (k * 64 + q) / 64 = k by omega, show (k * 64 + q) % 64 = q by omega]
  by_cases h : k = a / 64
  · obtain ⟨z, e2, hz, hzb⟩ := bits_and_shl y (a % 64) hy (Nat.mod_lt _ (by omega))
    refine ⟨y, z, e1, fun _ => e2, fun h' => absurd h h', hz, fun q hq => ?_⟩
    rw [hzb q hq, hyb q hq, htb q hq]
    have : a % 64 ≤ q ↔ a ≤ k * 64 + q := by omega
    simp [this, and_comm]
  · refine ⟨y, y, e1, fun h' => absurd h' h, fun _ => rfl, hy, fun q hq => ?_⟩
    rw [hyb q hq, htb q hq]
    have : a ≤ k * 64 + q := by omega
    simp [this]
theorem seek_none {W : List Nat} {v : Bool} {a k z : Nat} (hz : ∀ q, q < 64 → (z.testBit q = true ↔ a ≤ k * 64 + q ∧ tb W (k * 64 + q) = v)) (h0 : z = 0) (hl : ∀ j, a ≤ j → j < k * 64 → tb W j ≠ v) : ∀ j, a ≤ j → j < (k + 1) * 64 → tb W j ≠ v := by
  intro j h1 h2 h3
  by_cases hj : j < k * 64
  · exact hl j h1 hj h3
  · have h := (hz (j - k * 64) (by omega)).2 ⟨by omega, by rw [show k * 64 + (j - k * 64) = j by omega]; exact h3⟩
    rw [h0] at h; simp at h
theorem seek_some {W : List Nat} {v : Bool} {a k z : Nat} (hz : ∀ q, q < 64 → (z.testBit q = true ↔ a ≤ k * 64 + q ∧ tb W (k * 64 + q) = v)) (h0 : z ≠ 0) (hz64 : z < 18446744073709551616) (hl : ∀ j, a ≤ j → j < k * 64 → tb W j ≠ v) :
    a ≤ k * 64 + Lib.ctz 64 z ∧ tb W (k * 64 + Lib.ctz 64 z) = v ∧ Lib.ctz 64 z < 64 ∧ ∀ j, a ≤ j → j < k * 64 + Lib.ctz 64 z → tb W j ≠ v := by
  obtain ⟨h1, h2, h3⟩ := ctz_bit z h0 hz64
  obtain ⟨h4, h5⟩ := (hz _ h2).1 h1
  refine ⟨h4, h5, h2, fun j h6 h7 h8 => ?_⟩
  by_cases hj : j < k * 64
  · exact hl j h6 hj h8
  · have h := (hz (j - k * 64) (by omega)).2 ⟨by omega, by rw [show k * 64 + (j - k * 64) = j by omega]; exact h8⟩
    rw [h3 _ (by omega)] at h; cases h
theorem seek_end {n : Nat} {W : List Nat} {hs : List Bool} (B : BW n W hs) (v : Bool) (a k tz : Nat) (h1 : a ≤ k * 64 + tz) (h2 : tb W (k * 64 + tz) = v) (h3 : ∀ j, a ≤ j → j < k * 64 + tz → tb W j ≠ v) (d : Bool) (hd : d = decide (k * 64 + tz < n)) :
    SeekEnd hs v a (.returned (.tuple #[.int .i64 ((k : Int) * 64 + tz), .bool d])) := by
  by_cases h : k * 64 + tz < n
  · exact .inl ⟨k * 64 + tz, B.first v a _ h1 h h2 h3, by rw [hd, decide_eq_true h]; push_cast; rfl⟩
  · exact .inr ⟨B.first_none v a (fun j h4 h5 => h3 j h4 (by omega)), _, by rw [hd, decide_eq_false h]⟩
set_option maxRecDepth 100000 in
set_option maxHeartbeats 2000000 in
theorem bits_seek (t : Obj) (ht : TabO t) (g b : Nat) (W : List Nat) (n c a : Nat) (tn : Int) (v : Bool) (htn : tn = ((if v then 0 else 18446744073709551615 : Nat) : Int)) (hs : List Bool) (w : World) (H : HC w (bitsB t g b W n c)) (B : BW n W hs) (hn : n ≤ 65536) (ha : a < n) :
    Calls Tryz.prog 134 #[.pointer (some ⟨g, 0, none⟩), .int .i64 a, .int .u64 tn] w fun e w' => SeekEnd hs v a e ∧ ∃ q, w' = w.drewN q := by
  have S := H.st
  unfold bitsB at S
  have c0 := S.cell 0 rfl 2 rfl
  have cn := S.cell 0 rfl 0 rfl
  have htab := Lib.hid (S.hc.at_ 2 rfl)
  have hwl : W.length ≤ 1024 := by rw [B.wl]; omega
  have hWn : Hid (n ≤ W.length * 64) := by
    show n ≤ W.length * 64
    have h := B.wl
    clear htn
    omega
  have hal : a / 64 < W.length := by
    have h := B.wl
    clear htn
    omega
  have hmx : (if 0 < a then (a : Int) else 0) = (a : Int) := by split <;> omega
  have HB := Lib.hid B
  have HTN := Lib.hid htn
  have HS := Lib.hid S
  clear B htn H S
  go_enter Tryz.func134, Tryz.ntmps134
  go_wp2_with fail
  go_loop [8] (fun kv => ∃ k : Nat, a / 64 ≤ k ∧ k ≤ W.length ∧ kv = .int .i64 k ∧ Hid (∀ j, a ≤ j → j < k * 64 → tb W j ≠ v)) (fun kv => W.length - (intOf kv).toNat)
  case atStart => exact ⟨a / 64, Nat.le_refl _, by omega, by go_num, fun j h1 h2 => by omega⟩
  case round =>
    obtain ⟨k, hk1, hk2, rfl, hl⟩ := hrel
    by_cases hk : k < W.length
    · have hgk : W[k]? = some (W.getD k 0) := by simp [List.getD, List.getElem?_eq_getElem hk]
      have hx64 : W.getD k 0 < 18446744073709551616 := HB.out.lt _ (List.mem_of_getElem? hgk)
      obtain ⟨y, z, e1, e2, e3, hz64, hzb⟩ := seek_word W v a k hx64 hk1
      have c1 := HS.out.cell 1 rfl (k * 1 + 0) ((fm_get encU_len W k 0 _ hgk (by omega)).trans rfl)
      simp only [Nat.mul_one, Nat.add_zero] at c1
      rw [← HTN.out] at e1
      generalize W.getD k 0 = x at *
      have HZB := Lib.hid hzb
      clear hzb hgk
      by_cases hf : k = a / 64
      · have e2 := e2 hf
        have hkeq : ((k : Int) == (a : Int) / 64) = true := by rw [beq_iff_eq]; omega
        have hr : a % 64 < 64 := Nat.mod_lt _ (by omega)
        have HF := Lib.hid hf
        clear hf e3
        by_cases hz0 : z = 0
        · subst hz0
          go_wp2_with fail
          go_round
          case rel => exact ⟨k + 1, by omega, by omega, by go_num, seek_none HZB.out rfl hl.out⟩
          case measure => simp [intOf]; omega
        · have hz1 : ((z : Int) == 0) = false := by rw [beq_eq_false_iff_ne]; omega
          obtain ⟨s1, s2, s3, s4⟩ := seek_some HZB.out hz0 hz64 hl.out
          have htz := Lib.hid (bits_tz t ht z hz0 hz64 w htab.out)
          have S4 := Lib.hid s4
          have S2 := Lib.hid s2
          clear s4 s2
          generalize Lib.ctz 64 z = tz at *
          go_wp2_with (go_at_call 149; refine htz.out.mono ?_; rintro e w' ⟨rfl, rfl⟩)
          by_cases hd : (k : Int) * 64 + (tz : Int) < (n : Int)
          · have hd2 : decide ((k : Int) * 64 + (tz : Int) < (n : Int)) = true := decide_eq_true hd
            go_quiet (fail)
            go_wp2
            go_ret2
            exact ⟨seek_end HB.out v a k tz s1 S2.out S4.out _ (by rw [decide_eq_true]; omega), _, rfl⟩
          · have hd2 : decide ((k : Int) * 64 + (tz : Int) < (n : Int)) = false := decide_eq_false hd
            go_quiet (fail)
            go_wp2
            go_ret2
            exact ⟨seek_end HB.out v a k tz s1 S2.out S4.out _ (by rw [decide_eq_false]; omega), _, rfl⟩
      · have e3 := e3 hf
        have hkeq : ((k : Int) == (a : Int) / 64) = false := by rw [beq_eq_false_iff_ne]; omega
        subst e3
        have HF := Lib.hid hf
        clear hf e2
        by_cases hz0 : z = 0
        · subst hz0
          go_wp2_with fail
          go_round
          case rel => exact ⟨k + 1, by omega, by omega, by go_num, seek_none HZB.out rfl hl.out⟩
          case measure => simp [intOf]; omega
        · have hz1 : ((z : Int) == 0) = false := by rw [beq_eq_false_iff_ne]; omega
          obtain ⟨s1, s2, s3, s4⟩ := seek_some HZB.out hz0 hz64 hl.out
          have htz := Lib.hid (bits_tz t ht z hz0 hz64 w htab.out)
          have S4 := Lib.hid s4
          have S2 := Lib.hid s2
          clear s4 s2
          generalize Lib.ctz 64 z = tz at *
          go_wp2_with (go_at_call 149; refine htz.out.mono ?_; rintro e w' ⟨rfl, rfl⟩)
          by_cases hd : (k : Int) * 64 + (tz : Int) < (n : Int)
          · have hd2 : decide ((k : Int) * 64 + (tz : Int) < (n : Int)) = true := decide_eq_true hd
            go_quiet (fail)
            go_wp2
            go_ret2
            exact ⟨seek_end HB.out v a k tz s1 S2.out S4.out _ (by rw [decide_eq_true]; omega), _, rfl⟩
          · have hd2 : decide ((k : Int) * 64 + (tz : Int) < (n : Int)) = false := decide_eq_false hd
            go_quiet (fail)
            go_wp2
            go_ret2
            exact ⟨seek_end HB.out v a k tz s1 S2.out S4.out _ (by rw [decide_eq_false]; omega), _, rfl⟩
    · go_wp2_with fail
      go_ret2
      refine ⟨.inr ⟨HB.out.first_none v a (fun j h1 h2 => hl.out j h1 ?_), 0, rfl⟩, 0, rfl⟩
      have := hWn.out
      omega
theorem bits_told (i : Int) (b : Bool) (w : World) :
    Calls Tryz.prog 133 #[.int .i64 i, .bool b] w fun e w' => e = .returned (.tuple #[.int .i64 (if b then i else 0), .bool b]) ∧ w = w' := by
  cases b
  all_goals
    go_enter Tryz.func133, Tryz.ntmps133
    go_wp2
    go_ret2
    exact ⟨rfl, rfl⟩
/-- What Free and Next tell. -/
def foundOf (o : Option Nat) : Value := .tuple #[.int .i64 (o.getD 0 : Nat), .bool o.isSome]
set_option maxHeartbeats 400000 in
theorem bits_free (t : Obj) (ht : TabO t) (g b : Nat) (W : List Nat) (n c a : Nat) (hs : List Bool) (w : World) (H : HC w (bitsB t g b W n c)) (B : BW n W hs) (hn : n ≤ 65536) (ha : a < n) :
    Calls Tryz.prog 113 #[.pointer (some ⟨g, 0, none⟩), .int .i64 a] w fun e w' => e = .returned (foundOf (firstFrom hs false a)) ∧ ∃ q, w' = w.drewN q := by
  have hlen := Lib.hid (bits_len t g b W n c w H)
  have hsk := Lib.hid (bits_seek t ht g b W n c a 18446744073709551615 false rfl hs w H B hn ha)
  have hn0 : ((n : Int) == 0) = false := by rw [beq_eq_false_iff_ne]; omega
  have han : decide (n ≤ a) = false := by rw [decide_eq_false_iff_not]; omega
  clear B ht
  go_enter Tryz.func113, Tryz.ntmps113
  go_wp2_with (go_at_call 105; refine hlen.out.mono ?_; rintro e w' ⟨rfl, rfl⟩)
  refine hsk.out.mono ?_
  rintro e w1 ⟨he, q, rfl⟩
  rcases he with ⟨i, hi, rfl⟩ | ⟨hi, i, rfl⟩
  all_goals
    have HI := Lib.hid hi
    clear hi
    go_wp2_with (go_at_call 133; refine (bits_told _ _ _).mono ?_; rintro e w' ⟨rfl, rfl⟩)
    go_ret2
    exact ⟨by rw [HI.out]; rfl, q, rfl⟩
theorem u64_info : (Tryz.prog.info? 82).map (fun i => (i.zero, i.size, i.bytes)) = some (some (.int .u64 0), 1, 8) := by kernel_rfl
theorem BW.new (n : Nat) : BW n (List.replicate ((n + 63) / 64) 0) (List.replicate n false) := by
  refine ⟨by simp, by simp, fun x hx => ?_, fun i hi => ?_⟩
  · rw [List.mem_replicate] at hx; omega
  · rw [List.getElem?_replicate, if_pos hi]
    unfold Go.Proofs.YtnobknmhffaoeaaGreatDoor.tb
    rw [List.getD_eq_getElem?_getD, List.getElem?_replicate]
    split <;> simp
set_option maxHeartbeats 400000 in
theorem bits_new (t : Obj) (n : Nat) (w : World) (H : HC w [(1, t)]) (h1 : 1 ≤ n) (h2 : n ≤ 65536) :
    Calls Tryz.prog 71 #[.int .i64 n] w fun e w' => ∃ g b, e = .returned (.tuple #[.pointer (some ⟨g, 0, none⟩), .int .i64 0]) ∧ St w (FP w [(1, t)]) w' (bitsB t g b (List.replicate ((n + 63) / 64) 0) n 0) := by
  have S := H.st
  go_enter Tryz.func71, Tryz.ntmps71
  go_wp2_with (at_make; refine wpl_make S rfl _ _ _ rfl 82 _ _ 1 8 Tryz.underlying156 u64_info ⟨rfl, rfl, Nat.zero_lt_succ _⟩ .i64 .i64 _ _ rfl rfl ?_ ?_; (omega))
  intro b w1 hb S1
  have E1 : Hid ((List.replicate ((n + 63) / 64) [Value.int .u64 0]).flatten = (List.replicate ((n + 63) / 64) 0).flatMap encU) := by
    show _ = _
    rw [List.flatMap_def, List.map_replicate]; rfl
  go_wp2_with (refine wpl_box S1 rfl _ _ rfl _ rfl ?_)
  intro g w2 hg S2
  go_wp2
  go_ret2
  refine ⟨g, b, rfl, ?_⟩
  unfold bitsB
  rw [show (List.replicate ((n + 63) / 64) 0).length = (n + 63) / 64 by simp, ← E1.out]
  rw [show (((n : Int) + 64 - 1) / 64).toNat = (n + 63) / 64 by omega] at S2
  rw [List.flatten_replicate_singleton]
  exact S2
end Go.Proofs.YtnobknmhffaoeaaGreatDoor
namespace Go.Proofs.YtnobknmhffaoeaaGreatDoor
open Go.RowKit
/-- Where the pool lies: the table's block, and the pool's, the row's and the words'. -/
structure PAt where
  t : Obj
  p : Nat
  g : Nat
  b : Nat
def poolB (z : PAt) (W : List Nat) (n c : Nat) : Blocks := [(z.p, C 137 [.pointer (some ⟨z.g, 0, none⟩)])] ++ bitsB z.t z.g z.b W n c
structure PoolOk (z : PAt) (n : Nat) (W : List Nat) (hs : List Bool) : Prop where
  tab : TabO z.t
  bw : BW n W hs
  lo : 5 ≤ n
  hi : n ≤ 65536
theorem count_le' (hs : List Bool) : hs.count true ≤ hs.length := List.count_le_length
theorem count_lt {hs : List Bool} {i : Nat} (h : hs[i]? = some false) : hs.count true < hs.length := by
  have h1 : hs.count true + hs.count false = hs.length := by
    clear h
    induction hs with
    | nil => rfl
    | cons a l ih => cases a <;> simp <;> omega
  have h2 : 0 < hs.count false := List.count_pos_iff.2 (List.mem_of_getElem? h)
  omega
theorem count_set_true {hs : List Bool} {i : Nat} (h : hs[i]? = some false) : (hs.set i true).count true = hs.count true + 1 := by
  have hi : i < hs.length := (List.getElem?_eq_some_iff.1 h).1
  have he : hs[i] = false := (List.getElem?_eq_some_iff.1 h).2
  rw [List.count_set hi, he]; simp
theorem count_set_false {hs : List Bool} {i : Nat} (h : hs[i]? = some true) : (hs.set i false).count true = hs.count true - 1 := by
  have hi : i < hs.length := (List.getElem?_eq_some_iff.1 h).1
  have he : hs[i] = true := (List.getElem?_eq_some_iff.1 h).2
  rw [List.count_set hi, he]; simp
theorem first_some {hs : List Bool} {v : Bool} {a i : Nat} (h : firstFrom hs v a = some i) : i < hs.length ∧ hs[i]? = some v ∧ a ≤ i ∧ ∀ j, a ≤ j → j < i → hs[j]? = some (!v) := by
  unfold firstFrom at h
  rw [List.find?_range_eq_some] at h
  obtain ⟨h1, h2, h3⟩ := h
  have hi : i < hs.length := by simpa using h2
  have hg : hs.getD i (!v) = hs[i] := by simp [List.getD, List.getElem?_eq_getElem hi]
  rw [Bool.and_eq_true, decide_eq_true_eq, beq_iff_eq, hg] at h1
  refine ⟨hi, by rw [List.getElem?_eq_getElem hi, h1.2], h1.1, fun j hj1 hj2 => ?_⟩
  have := h3 j hj2
  have hjl : j < hs.length := by omega
  have hgj : hs.getD j (!v) = hs[j] := by simp [List.getD, List.getElem?_eq_getElem hjl]
  rw [hgj] at this
  rw [List.getElem?_eq_getElem hjl]
  simp [hj1] at this
  cases hv : hs[j] <;> cases v <;> simp_all
theorem first_none {hs : List Bool} {v : Bool} {a : Nat} (h : firstFrom hs v a = none) : ∀ j, a ≤ j → j < hs.length → hs[j]? = some (!v) := by
  unfold firstFrom at h
  rw [List.find?_eq_none] at h
  intro j hj1 hj2
  have := h j (List.mem_range.2 hj2)
  have hgj : hs.getD j (!v) = hs[j] := by simp [List.getD, List.getElem?_eq_getElem hj2]
  rw [hgj] at this
  rw [List.getElem?_eq_getElem hj2]
  simp [hj1] at this
  cases hv : hs[j] <;> cases v <;> simp_all
theorem count_all {hs : List Bool} (h : ∀ j, j < hs.length → hs[j]? = some true) : hs.count true = hs.length := by
  rw [List.count_eq_length]
  intro b hb
  obtain ⟨j, hj⟩ := List.getElem?_of_mem hb
  have := h j (List.getElem?_eq_some_iff.1 hj).1
  rw [hj] at this; injection this with this; exact this.symm
section
variable {z : PAt} {n : Nat} {W : List Nat} {hs : List Bool}
theorem PoolOk.tb_iff (K : PoolOk z n W hs) {i : Nat} {v : Bool} (h : hs[i]? = some v) : i < n ∧ tb W i = v := by
  have hi : i < n := by rw [← K.bw.len]; exact (List.getElem?_eq_some_iff.1 h).1
  have := K.bw.tb i hi
  rw [h] at this; injection this with this; exact ⟨hi, this.symm⟩
set_option maxHeartbeats 400000 in
theorem pool_none (K : PoolOk z n W hs) (c : Nat) (w : World) (H : HC w (poolB z W n c)) :
    Calls Tryz.prog 100 #[.pointer (some ⟨z.p, 0, none⟩)] w fun e w' => e = .returned (.bool false) ∧ w = w' := by
  have S := H.st
  unfold poolB at S
  have c0 := S.cell 0 rfl 0 rfl
  go_enter Tryz.func100, Tryz.ntmps100
  go_wp2
  go_ret
  exact ⟨rfl, rfl⟩
set_option maxHeartbeats 400000 in
theorem pool_free (K : PoolOk z n W hs) (w : World) (H : HC w (poolB z W n (hs.count true))) :
    Calls Tryz.prog 112 #[.pointer (some ⟨z.p, 0, none⟩)] w fun e w' => e = .returned (.int .i64 (n - hs.count true : Nat)) ∧ ∃ q, w' = w.drewN q := by
  have hno := Lib.hid (pool_none K _ w H)
  have S := H.st
  have S' := S
  unfold poolB at S
  have c0 := S.cell 0 rfl 0 rfl
  have H2 : HC w (bitsB z.t z.g z.b W n (hs.count true)) := H.right (A := [_])
  have hl := Lib.hid (fun q => bits_len z.t z.g z.b W n _ (w.drewN q) (H2.drewN q))
  have hc := Lib.hid (fun q => bits_count z.t z.g z.b W n _ (w.drewN q) (H2.drewN q))
  have hle := count_le' hs
  rw [K.bw.len] at hle
  have hn := K.hi
  have k1 : IntKind.i64.wrap ((n : Int) - (hs.count true : Int)) = ((n - hs.count true : Nat) : Int) := by
    rw [IntWalk.i64_in _ (by omega)]; omega
  generalize hs.count true = cc at *
  go_enter Tryz.func112, Tryz.ntmps112
  go_wp2_with (go_at_call 100; refine hno.out.mono ?_; rintro e w' ⟨rfl, rfl⟩)
  go_quiet ((first | (go_at_call 105; exact quiet_eq (hl.out _)) | (go_at_call 132; exact quiet_eq (hc.out _))))
  go_wp2
  go_ret
  exact ⟨rfl, _, rfl⟩
theorem u32_info : (Tryz.prog.info? 53).map (fun i => (i.zero, i.size, i.bytes)) = some (some (.int .u32 0), 1, 4) := by kernel_rfl
/-- Grab of one: there is none. -/
theorem pool_grab_no (K : PoolOk z n W hs) (w : World) (H : HC w (poolB z W n (hs.count true))) (hf : firstFrom hs false 0 = none) :
    Calls Tryz.prog 96 #[.pointer (some ⟨z.p, 0, none⟩), .int .i64 1] w fun e w' => e = .returned (.tuple #[.slice none 0 0, .int .i64 11]) ∧ ∃ q, w' = w.drewN q := by
  have hno := Lib.hid (pool_none K _ w H)
  have hfr := pool_free K w H
  have hall := count_all (hs := hs) (fun j hj => first_none hf j (Nat.zero_le _) hj)
  rw [show n - hs.count true = 0 by rw [hall, K.bw.len]; omega] at hfr
  have hfr := Lib.hid hfr
  clear hf hall
  go_enter Tryz.func96, Tryz.ntmps96
  go_wp2_with (go_at_call 100; refine hno.out.mono ?_; rintro e w' ⟨rfl, rfl⟩)
  refine hfr.out.mono ?_
  rintro e w1 ⟨rfl, q, rfl⟩
  go_wp2
  go_ret2
  exact ⟨rfl, q, rfl⟩
set_option maxHeartbeats 1000000 in
set_option maxRecDepth 100000 in
theorem pool_grab (K : PoolOk z n W hs) (w : World) (H : HC w (poolB z W n (hs.count true))) (i : Nat) (hf : firstFrom hs false 0 = some i) :
    Calls Tryz.prog 96 #[.pointer (some ⟨z.p, 0, none⟩), .int .i64 1] w fun e w' => ∃ v W' L', e = .returned (.tuple #[v, .int .i64 0]) ∧ PoolOk z n W' (hs.set i true) ∧ Own (eNat .u32) 53 v [i] L' ∧
      St w (FP w (poolB z W n (hs.count true))) w' (L' ++ poolB z W' n ((hs.set i true).count true)) := by
  obtain ⟨hi1, hi2, _, _⟩ := first_some hf
  obtain ⟨hin, htb⟩ := K.tb_iff hi2
  have hno := Lib.hid (pool_none K _ w H)
  have hfr := Lib.hid (pool_free K w H)
  have hclt := count_lt hi2
  rw [K.bw.len] at hclt
  have hcs := Lib.hid (count_set_true hi2)
  have hn := K.hi
  have hgt : ¬ (((n - hs.count true : Nat) : Int) < 1) := by omega
  have S := H.st
  have S' := S
  unfold poolB at S'
  go_enter Tryz.func96, Tryz.ntmps96
  go_wp2_with (go_at_call 100; refine hno.out.mono ?_; rintro e w' ⟨rfl, rfl⟩)
  refine hfr.out.mono ?_
  rintro e w1 ⟨rfl, q, rfl⟩
  go_wp2_with fail
  go_loopw [6, 7, 22] (fun lv av jv wr => (jv = .int .i64 0 ∧ lv = .slice none 0 0 ∧ av = .int .i64 0 ∧ St w (FP w (poolB z W n (hs.count true))) wr (poolB z W n (hs.count true))) ∨
    (jv = .int .i64 1 ∧ ∃ W' L', PoolOk z n W' (hs.set i true) ∧ Own (eNat .u32) 53 lv [i] L' ∧ St w (FP w (poolB z W n (hs.count true))) wr (L' ++ poolB z W' n ((hs.set i true).count true)))) (fun _ _ jv _ => 1 - (intOf jv).toNat)
  case atStart => exact .inl ⟨rfl, rfl, rfl, S.drewN q⟩
  case round =>
    rcases hrel with ⟨rfl, rfl, rfl, S0⟩ | ⟨rfl, W', L', K', O', S0⟩
    · have S0' := S0
      unfold poolB at S0'
      have c0 := S0'.cell 0 rfl 0 rfl
      have hbf := Lib.hid (bits_free z.t K.tab z.g z.b W n (hs.count true) 0 hs wr S0.hc.right K.bw hn (by omega))
      rw [hf] at hbf
      go_wp2_with fail
      refine hbf.out.mono ?_
      rintro e w2 ⟨rfl, q2, rfl⟩
      have S1 : St _ _ (wr.drewN q2) (bitsB z.t z.g z.b W n (hs.count true) ++ [(z.p, C 137 [.pointer (some ⟨z.g, 0, none⟩)])]) := (S0.drewN q2).swap
      have c1 := S1.swap.cell 0 rfl 0 rfl
      have hst := Lib.hid (bits_set z.t z.g z.b W n (hs.count true) i hs (wr.drewN q2) S1.hc.left K.bw hin hn (by omega) htb)
      simp only [foundOf, Option.getD_some, Option.isSome_some]
      go_wp2_with fail
      refine hst.out.mono ?_
      rintro e w3 ⟨rfl, W', B', S2⟩
      have S3 := (S1.call S2)
      have hk : Hid (IntKind.u32.wrap (i : Int) = (i : Int)) := by
        show _ = _
        simp only [IntKind.wrap, IntKind.bits, IntKind.signed]; simp; omega
      have K' : PoolOk z n W' (hs.set i true) := ⟨K.tab, B', K.lo, K.hi⟩
      clear S2 B' S1 S0
      have hwr := hk.out
      go_wp2_with (at_builtin; refine wpl_append1 (A := []) (E := eNat .u32) (x := i) (S3.alloc _) (Own.nil _ _) rfl _ _ 62 rfl _ 4 Tryz.underlying62 u32_info rfl rfl rfl ?_ ?_; (exact ⟨by simp, by omega⟩))
      intro v' w4 L' O' S4
      replace S4 : St _ _ w4 (L' ++ (bitsB z.t z.g z.b W' n (hs.count true + 1) ++ [(z.p, C 137 [.pointer (some ⟨z.g, 0, none⟩)])])) := S4
      go_wp2_with fail
      go_roundw
      case rel => exact .inr ⟨rfl, W', L', K', O', by rw [hcs.out]; exact S4.perm ((List.Perm.refl L').append List.perm_append_comm)⟩
      case measure => simp [intOf]
    · go_wp2_with fail
      go_ret2
      exact ⟨_, W', L', rfl, K', O', S0⟩

/-- What Take tells. -/
def takeOf (o : Option Nat) : Value := .tuple #[.int .u32 (o.getD 0 : Nat), .int .i64 (if o.isSome then 0 else 11)]
set_option maxHeartbeats 400000 in
theorem pool_take_no (K : PoolOk z n W hs) (w : World) (H : HC w (poolB z W n (hs.count true))) (hf : firstFrom hs false 0 = none) :
    Calls Tryz.prog 74 #[.pointer (some ⟨z.p, 0, none⟩)] w fun e w' => e = .returned (.tuple #[.int .u32 0, .int .i64 11]) ∧ ∃ q, w' = w.drewN q := by
  have hg := Lib.hid (pool_grab_no K w H hf)
  clear hf
  go_enter Tryz.func74, Tryz.ntmps74
  go_wp2_with fail
  refine hg.out.mono ?_
  rintro e w1 ⟨rfl, q, rfl⟩
  go_wp2
  go_ret2
  exact ⟨rfl, q, rfl⟩
set_option maxHeartbeats 400000 in
theorem pool_take (K : PoolOk z n W hs) (w : World) (H : HC w (poolB z W n (hs.count true))) (i : Nat) (hf : firstFrom hs false 0 = some i) :
    Calls Tryz.prog 74 #[.pointer (some ⟨z.p, 0, none⟩)] w fun e w' => e = .returned (.tuple #[.int .u32 i, .int .i64 0]) ∧ ∃ W', PoolOk z n W' (hs.set i true) ∧
      St w (FP w (poolB z W n (hs.count true))) w' (poolB z W' n ((hs.set i true).count true)) := by
  have hg := Lib.hid (pool_grab K w H i hf)
  clear hf
  go_enter Tryz.func74, Tryz.ntmps74
  go_wp2_with fail
  refine hg.out.mono ?_
  rintro e w1 ⟨v, W', L', rfl, K', O', S⟩
  obtain ⟨b, cap, spare, rfl, rfl, h1, h2, h3⟩ := O'.form (by simp)
  have c0 : w1.cell? ⟨b, 0, none⟩ = some (.int .u32 i) := S.cell 0 rfl 0 rfl
  go_wp2
  go_ret2
  exact ⟨rfl, W', K', S.right⟩
def giveErr (n : Nat) (hs : List Bool) (i : Nat) : Int := if i = 0 then 2 else if n ≤ i then 4 else if hs.getD i false then 0 else 9
def giveHs (n : Nat) (hs : List Bool) (i : Nat) : List Bool := if giveErr n hs i = 0 then hs.set i false else hs
set_option maxHeartbeats 400000 in
theorem pool_give (K : PoolOk z n W hs) (i : Nat) (w : World) (H : HC w (poolB z W n (hs.count true))) (hi : i ≤ 4294967295) :
    Calls Tryz.prog 76 #[.pointer (some ⟨z.p, 0, none⟩), .int .u32 i] w fun e w' => e = .returned (.int .i64 (giveErr n hs i)) ∧ ∃ W', PoolOk z n W' (giveHs n hs i) ∧
      St w (FP w (poolB z W n (hs.count true))) w' (poolB z W' n ((giveHs n hs i).count true)) := by
  have hno := Lib.hid (pool_none K _ w H)
  have S := H.st
  have S' := S
  unfold poolB at S'
  have c0 := S'.cell 0 rfl 0 rfl
  have h5 := K.lo
  have h6 := K.hi
  by_cases hz : i = 0
  · subst hz
    have he : Hid (giveErr n hs 0 = 2) := by show _ = _; unfold giveErr; rw [if_pos rfl]
    have he2 : Hid (giveHs n hs 0 = hs) := by show _ = _; unfold giveHs; rw [he.out]; simp
    rw [he.out, he2.out]
    go_enter Tryz.func76, Tryz.ntmps76
    go_wp2_with (go_at_call 100; refine hno.out.mono ?_; rintro e w' ⟨rfl, rfl⟩)
    go_ret
    exact ⟨rfl, W, K, S⟩
  · have hh : Hid (Calls Tryz.prog 101 #[.pointer (some ⟨z.g, 0, none⟩), .int .i64 i] w fun e w' => e = .returned (.int .i64 (giveErr n hs i)) ∧ ∃ W', PoolOk z n W' (giveHs n hs i) ∧
      St w (FP w (poolB z W n (hs.count true))) w' (poolB z W' n ((giveHs n hs i).count true))) := by
      show Calls _ _ _ _ _
      unfold giveHs giveErr
      rw [if_neg hz]
      by_cases hin : n ≤ i
      · rw [if_pos hin]
        refine (bits_clear_no z.t z.g z.b W n _ i hs w (H.right (A := [_])) K.bw (by omega) K.hi (by omega) (.inl (by omega))).mono ?_
        rintro e w' ⟨rfl, rfl⟩
        rw [if_pos (show (n : Int) ≤ i by omega)]
        exact ⟨rfl, W, K, S⟩
      · rw [if_neg hin]
        have hg := K.bw.getD i false (by omega)
        cases hb : hs.getD i false
        · rw [hb] at hg
          refine (bits_clear_no z.t z.g z.b W n _ i hs w (H.right (A := [_])) K.bw (by omega) K.hi (by omega) (.inr ⟨i, rfl, by omega, hg.symm⟩)).mono ?_
          rintro e w' ⟨rfl, rfl⟩
          rw [if_neg (show ¬ (n : Int) ≤ i by omega)]
          exact ⟨rfl, W, K, S⟩
        · rw [hb] at hg
          have hi2 : hs[i]? = some true := by rw [K.bw.tb i (by omega), ← hg]
          have hpos : 0 < hs.count true := List.count_pos_iff.2 (List.mem_of_getElem? hi2)
          refine (bits_clear z.t z.g z.b W n _ i hs w (H.right (A := [_])) K.bw (by omega) K.hi (by have := count_le' hs; rw [K.bw.len] at this; omega) hpos hg.symm).mono ?_
          rintro e w' ⟨rfl, W', B', S2⟩
          refine ⟨rfl, W', ⟨K.tab, B', K.lo, K.hi⟩, ?_⟩
          simp only [if_true]
          rw [count_set_false hi2]
          exact (St.call (St.swap S) S2).swap
    have hz2 : ((i : Int) == 0) = false := by rw [beq_eq_false_iff_ne]; omega
    clear K S H S'
    go_enter Tryz.func76, Tryz.ntmps76
    go_wp2_with (go_at_call 100; refine hno.out.mono ?_; rintro e w' ⟨rfl, rfl⟩)
    refine hh.out.mono ?_
    rintro e w' ⟨rfl, hr⟩
    have HR := Lib.hid hr
    clear hr
    go_wp2
    go_ret
    exact ⟨rfl, HR.out⟩
end
set_option maxHeartbeats 400000 in
theorem pool_new (t : Obj) (ht : TabO t) (n : Nat) (w : World) (H : HC w [(1, t)]) (h1 : 5 ≤ n) (h2 : n ≤ 65536) :
    Calls Tryz.prog 46 #[.int .i64 n] w fun e w' => ∃ z W, e = .returned (.tuple #[.pointer (some ⟨z.p, 0, none⟩), .int .i64 0]) ∧ z.t = t ∧ PoolOk z n W ((List.replicate n false).set 0 true) ∧
      St w (FP w [(1, t)]) w' (poolB z W n (((List.replicate n false).set 0 true).count true)) := by
  have S := H.st
  have hn := Lib.hid (bits_new t n w H (by omega) h2)
  go_enter Tryz.func46, Tryz.ntmps46
  go_wp2_with fail
  refine hn.out.mono ?_
  rintro e w1 ⟨g, b, rfl, S1⟩
  have hst := Lib.hid (bits_set t g b _ n 0 0 _ w1 S1.hc (BW.new n) (by omega) h2 (by omega) (by
    have := (BW.new n).tb 0 (by omega)
    rw [List.getElem?_replicate, if_pos (by omega)] at this
    injection this with this; exact this.symm))
  go_wp2_with fail
  refine hst.out.mono ?_
  rintro e w2 ⟨rfl, W', B', S2⟩
  have S3 := S1.seq S2
  clear S2 S1
  go_wp2_with (refine wpl_box S3 rfl _ _ rfl _ rfl ?_)
  intro p w3 hp S4
  go_wp2
  go_ret2
  refine ⟨⟨t, p, g, b⟩, W', rfl, rfl, ⟨ht, B', h1, h2⟩, ?_⟩
  have hc : ((List.replicate n false).set 0 true).count true = 1 := by
    rw [count_set_true (by rw [List.getElem?_replicate, if_pos (by omega)]), List.count_replicate]
    simp
  rw [hc]
  exact S4
end Go.Proofs.YtnobknmhffaoeaaGreatDoor
