/- append of a text's bytes to a row of bytes. append(b, make([]byte, n)...): noughts behind a row of bytes. word: numbers as bytes. code: a number, and a text in its slot, written behind a row of one's own. code: a block's front. code: a pair in its slots. -/
import Derived.Test.YtnobknmhffaoeaaGreatDoorQDev
import Derived.Lib.AppendStr
import Derived.Test.YtnobknmhffaoeaaGreatDoorQCache
import Derived.Deep.DeepMust
import Derived.Test.YtnobknmhffaoeaaGreatDoorQConf
set_option linter.unusedVariables false
set_option linter.unusedSimpArgs false
namespace Go.Proofs.YtnobknmhffaoeaaGreatDoor
open Go.RowKit Go.Lib
/-- A text's bytes. -/
def bytesL (s : ByteArray) : List UInt8 := s.data.toList
theorem bytesL_len (s : ByteArray) : (bytesL s).length = s.size := by
  show s.data.toList.length = s.data.size
  rw [Array.length_toList]
theorem all_bytes (l : List UInt8) : eByte.all l = l.map fun x => Value.int .u8 x.toNat := by
  induction l with
  | nil => rfl
  | cons a l ih => simp only [Lay.all, List.flatMap_cons, List.map_cons] at ih ⊢; rw [ih]; rfl
theorem strCells_all (s : ByteArray) : strCells s = eByte.all (bytesL s) := by rw [all_bytes]; rfl
section
variable {P : Program} {w0 w : World} {F : Nat → Prop} {A R : Blocks} {e : Nat} {v : Value} {xs : List UInt8}
theorem run_appendStr (S : St w0 F w (A ++ R)) (O : Own eByte e v xs A) (t u ty : Nat) (ht : P.underlying t = some (.slice e)) (hu : P.underlying u = some .string)
    (hinfo : (P.info? e).map (fun i => (i.zero, i.size, i.bytes)) = some (some (.int .u8 0), 1, 1)) (s : ByteArray) (hb : xs.length + s.size ≤ 2147483648) :
    ∃ v' w' A', (Builtin.append_ #[t, u] ty #[v, .string s]).run P w = .ok v' w' ∧ Own eByte e v' (xs ++ bytesL s) A' ∧ St w0 F w' (A' ++ R) := by
  obtain ⟨i, hi, hz0, hz1, hz2⟩ := info_parts hinfo
  have hlen : xs.length + s.size = (xs ++ bytesL s).length := by simp [bytesL_len]
  have hml : xs.length + s.size ≤ maxLen := by unfold maxLen; omega
  rcases O with ⟨rfl, rfl, rfl⟩ | ⟨b, cap, spare, rfl, rfl, h1, h2, h3⟩
  · obtain ⟨v', w', hr, h2, h3, _⟩ := run_append_own_string (P := P) (w := w) w.heap.size t u ty e i ht hu hi hz0 hz1 hz2 (.slice none 0 0) 0 [] ⟨rfl, .inl ⟨rfl, rfl⟩⟩ s (by simpa using hml) (by simp at hb; omega) (Nat.le_refl _)
    rw [List.nil_append, strCells_all] at h2
    have h2' : w'.ownsRow 0 e 1 v' (0 + s.size) (eByte.all (bytesL s)) := by
      refine ⟨h2.1, ?_⟩
      rcases h2.2 with h | ⟨b, cap, cur, a1, a2, a3, a4, a5, a6, a7⟩
      · exact .inl h
      · exact .inr ⟨b, cap, cur, a1, Nat.zero_le _, a3, a4, a5, a6, a7⟩
    obtain ⟨A', O', H', hk⟩ := Own.of_owns (E := eByte) h2' (by simp [bytesL_len])
    refine ⟨v', w', A', hr, O', St.call (P := []) (P' := A') S ⟨h3.os, h3.tape, h3.output, h3.size, fun k hk1 _ => h3.block k hk1 (by simp [Value.ownBlock]), H', fun k hkA => ?_, fun k hk1 => .inr hk1⟩⟩
    have h4 := hk k hkA
    rcases h2.2 with ⟨rfl, _⟩ | ⟨b, cap, cur, rfl, a2, _⟩
    · simp [Value.ownBlock] at h4
    · simp [Value.ownBlock] at h4; subst h4; exact .inr a2
  · have O0 : Own eByte e (.slice (some ⟨b, 0, none⟩) xs.length cap) xs [(b, C e (eByte.all xs ++ spare))] := .inr ⟨b, cap, spare, rfl, rfl, h1, h2, h3⟩
    obtain ⟨v', w', hr, h4, h5, _⟩ := run_append_own_string (P := P) (w := w) 0 t u ty e i ht hu hi hz0 hz1 hz2 _ xs.length (eByte.all xs) (O0.owns S.hc.left) s hml (by omega) (Nat.zero_le _)
    rw [strCells_all, ← eByte.all_append] at h4
    have hat : v'.ownBlock = some b ∨ v'.ownBlock = some w.heap.size := by
      by_cases hroom : xs.length + s.size ≤ cap
      · have := run_append_room_string (P := P) (w := w) t u ty e i ht hu hi hz1 b xs.length cap (eByte.all xs ++ spare).toArray (S.hc.at_ 0 rfl) s hroom (by rw [List.size_toArray, h3]; show _ ≤ cap * 1; omega)
        rw [this] at hr; injection hr with hr _; subst hr; exact .inl rfl
      · have := run_append_grow_string (P := P) (w := w) t u ty e i _ ht hu hi hz0 ⟨b, 0, none⟩ xs.length cap (eByte.all xs) (by rw [eByte.all_len, hz1]; rfl) (fun j v hj => by
          have : (⟨b, 0, none⟩ : Addr).add j = ⟨b, j, none⟩ := by unfold Addr.add; split <;> simp_all
          rw [this]
          exact S.cell 0 rfl j (by rw [List.getElem?_append_left (List.getElem?_eq_some_iff.1 hj).1]; exact hj)) s (by omega) (by omega) (by rw [hz2]; exact growslice_fits (by omega) (by omega))
        rw [this] at hr; injection hr with hr _; subst hr; exact .inr rfl
    obtain ⟨A', O', S'⟩ := S.grown O0 h4 hlen h5 hat
    exact ⟨v', w', A', hr, O', S'⟩
end
end Go.Proofs.YtnobknmhffaoeaaGreatDoor
namespace Go.Proofs.YtnobknmhffaoeaaGreatDoor
open Go.RowKit Go.Lib
section
variable {P : Program} {w0 w : World} {F : Nat → Prop} {A R : Blocks} {e : Nat} {v : Value} {xs : List UInt8}
theorem zeroCells_u8 (n : Nat) : (Builtin.zeroCells #[Value.int .u8 0] n) = (List.replicate n (Value.int .u8 0)).toArray := by
  apply Array.ext'
  simp [Builtin.zeroCells]
  apply List.ext_getElem?
  intro j
  simp only [List.getElem?_map, List.getElem?_replicate]
  by_cases hj : j < n
  · simp [hj, List.getElem?_range, Nat.mod_one]
  · simp [hj]
theorem run_appz_room (t u ty : Nat) (i : TypeInfo) (k : IntKind) (ht : P.underlying t = some (.slice e)) (hu : P.underlying u = some (.int k)) (hi : P.info? e = some i) (hz : i.zero = some (.int .u8 0)) (hs1 : i.size = 1) (hby : i.bytes = 1)
    (g sLen sCap n : Nat) (cur : Array Value) (hg : w.heap[g]? = some (.cells cur e (0, 0))) (hroom : sLen + n ≤ sCap) (hfit : sLen + n ≤ cur.size) (hn : 1 ≤ n ∧ n ≤ 2147483648) (kk : IntKind) :
    (Builtin.append_ #[t, u] ty #[.slice (some ⟨g, 0, none⟩) sLen sCap, .int kk n]).run P w =
      .ok (.slice (some ⟨g, 0, none⟩) (sLen + n) sCap) (w.setRow g (cur.toList.take sLen ++ List.replicate n (Value.int .u8 0) ++ cur.toList.drop (sLen + n)).toArray) := by
  have hst := run_storeCells_at P g sLen e (List.replicate n (Value.int .u8 0)) 0 cur w hg (by simpa using hfit) (by intro u hu; rw [(List.mem_replicate.1 hu).2]; rfl)
  simp only [Nat.add_zero, List.length_replicate] at hst
  cases n with
  | zero => omega
  | succ n =>
    have hw : IntKind.i64.wrap ((n : Int) + 1) = (n : Int) + 1 := IntWalk.i64_in _ (by omega)
    have q1 : ¬ ((n : Int) + 1 < 0) := by omega
    have q2 : ¬ ((281474976710656 : Int) < (n : Int) + 1) := by omega
    have q3 : ¬ ((n : Int) + 1 ≤ 0) := by omega
    have q4 : ((n : Int) + 1).toNat = n + 1 := by omega
    have q5 : (Value.int .u8 0).cells = #[Value.int .u8 0] := rfl
    simp [Builtin.append_, run_underlying ht, run_underlying hu, sizeOf, typeInfo, zeroValue, hi, hz, hs1, hby, hw, asInt, asIntOf, hroom, Addr.add_lit, q1, q2, q3, q4, q5, zeroCells_u8, hst]
theorem run_appz_zero (t u ty : Nat) (i : TypeInfo) (k : IntKind) (ht : P.underlying t = some (.slice e)) (hu : P.underlying u = some (.int k)) (hi : P.info? e = some i) (hs1 : i.size = 1) (hby : i.bytes = 1)
    (a : Option Addr) (sLen sCap : Nat) (h : sLen ≤ sCap) (kk : IntKind) :
    (Builtin.append_ #[t, u] ty #[.slice a sLen sCap, .int kk 0]).run P w = .ok (.slice a sLen sCap) w := by
  have hw : IntKind.i64.wrap 0 = 0 := by decide
  cases a <;> simp [Builtin.append_, run_underlying ht, run_underlying hu, sizeOf, typeInfo, hi, hs1, hby, hw, asInt, asIntOf, h, storeCells]
theorem run_appz_grow (t u ty : Nat) (i : TypeInfo) (k : IntKind) (ht : P.underlying t = some (.slice e)) (hu : P.underlying u = some (.int k)) (hi : P.info? e = some i) (hz : i.zero = some (.int .u8 0)) (hs1 : i.size = 1) (hby : i.bytes = 1)
    (a : Option Addr) (sLen sCap n : Nat) (olds : List Value) (hf : (Builtin.firstCells 1 sLen (.slice a sLen sCap)).run P w.drew = .ok olds.toArray w.drew)
    (hg : sCap < sLen + n) (hn : 1 ≤ n) (hb : sLen + n ≤ 2147483648) (kk : IntKind) :
    (Builtin.append_ #[t, u] ty #[.slice a sLen sCap, .int kk n]).run P w =
      .ok (.slice (some ⟨w.heap.size, 0, none⟩) (sLen + n) (grownCap w (sLen + n) sCap e))
        (w.drew.alloc (.cells (olds ++ List.replicate n (Value.int .u8 0) ++ List.replicate (grownCap w (sLen + n) sCap e - (sLen + n)) (Value.int .u8 0)).toArray e)) := by
  have hfit : Builtin.nextslicecap (sLen + n) sCap * 1 ≤ 281474976710656 := growslice_fits hg (by omega)
  rw [Nat.mul_one] at hfit
  cases n with
  | zero => omega
  | succ n =>
    have hw : IntKind.i64.wrap ((n : Int) + 1) = (n : Int) + 1 := IntWalk.i64_in _ (by omega)
    have q1 : ¬ ((n : Int) + 1 < 0) := by omega
    have q2 : ¬ ((281474976710656 : Int) < (n : Int) + 1) := by omega
    have q3 : ¬ ((n : Int) + 1 ≤ 0) := by omega
    have q4 : ((n : Int) + 1).toNat = n + 1 := by omega
    have q5 : (Value.int .u8 0).cells = #[Value.int .u8 0] := rfl
    have q6 : ¬ (sLen + (n + 1) ≤ sCap) := by omega
    have q7 : ¬ ((9223372036854775807 : Int) < (sLen : Int) + ((n : Int) + 1)) := by omega
    have q9 : ¬ ((9223372036854775807 : Int) < (sLen : Int) + max ((n : Int) + 1) 0) := by omega
    have q8 : ¬ (281474976710656 < Builtin.nextslicecap (sLen + (n + 1)) sCap) := by omega
    simp [Builtin.append_, run_underlying ht, run_underlying hu, sizeOf, typeInfo, zeroValue, hi, hz, hs1, hby, hw, asInt, asIntOf, q1, q2, q3, q4, q5, q6, q7, q8, q9, zeroCells_u8, Question.forced, hf, newRow, grownCap]
    congr 2
    apply Array.ext'
    simp
theorem all_zero (n : Nat) : eByte.all (List.replicate n 0) = List.replicate n (Value.int .u8 0) := by rw [all_bytes]; simp
/-- append(b, make([]byte, n)...) of a row of one's own. -/
theorem run_appz (S : St w0 F w (A ++ R)) (O : Own eByte e v xs A) (t u ty : Nat) (k : IntKind) (ht : P.underlying t = some (.slice e)) (hu : P.underlying u = some (.int k))
    (hinfo : (P.info? e).map (fun i => (i.zero, i.size, i.bytes)) = some (some (.int .u8 0), 1, 1)) (n : Nat) (hb : xs.length + n ≤ 2147483648) (kk : IntKind) :
    ∃ v' w' A', (Builtin.append_ #[t, u] ty #[v, .int kk n]).run P w = .ok v' w' ∧ Own eByte e v' (xs ++ List.replicate n 0) A' ∧ St w0 F w' (A' ++ R) := by
  obtain ⟨i, hi, hz0, hz1, hz2⟩ := info_parts hinfo
  rcases Nat.eq_zero_or_pos n with rfl | hn
  · obtain ⟨a, c, hv, h1, h2⟩ := O.slice
    refine ⟨v, w, A, ?_, by simpa using O, S⟩
    rw [hv]
    exact run_appz_zero t u ty i k ht hu hi hz1 hz2 a xs.length c h1 kk
  · have grow : ∀ (a : Option Addr) (cap : Nat), cap < xs.length + n → (Builtin.firstCells 1 xs.length (.slice a xs.length cap)).run P w.drew = .ok (eByte.all xs).toArray w.drew → v = .slice a xs.length cap →
        ∃ v' w' A', (Builtin.append_ #[t, u] ty #[v, .int kk n]).run P w = .ok v' w' ∧ Own eByte e v' (xs ++ List.replicate n 0) A' ∧ St w0 F w' (A' ++ R) := by
      intro a cap hg hf hv
      have hr := run_appz_grow t u ty i k ht hu hi hz0 hz1 hz2 a xs.length cap n (eByte.all xs) hf hg hn hb kk
      have hge := grownCap_ge w (xs.length + n) cap e
      have hle := grownCap_le_maxLen w (xs.length + n) cap e (by unfold maxLen; omega)
      rw [← hv] at hr
      generalize grownCap w (xs.length + n) cap e = gc at *
      refine ⟨_, _, [(w.heap.size, C e (eByte.all (xs ++ List.replicate n 0) ++ List.replicate (gc - (xs.length + n)) (Value.int .u8 0)))], hr, ?_, ?_⟩
      · refine .inr ⟨w.heap.size, gc, List.replicate (gc - (xs.length + n)) (Value.int .u8 0), by simp, rfl, by simpa using hge, hle, ?_⟩
        rw [List.length_append, eByte.all_len]
        simp
        show (xs.length + n) * 1 + _ = gc * 1
        omega
      · have S2 := S.drew.right.alloc (.cells (eByte.all xs ++ List.replicate n (Value.int .u8 0) ++ List.replicate (gc - (xs.length + n)) (Value.int .u8 0)).toArray e)
        rw [eByte.all_append, all_zero]
        exact S2
    rcases O with ⟨rfl, rfl, rfl⟩ | ⟨b, cap, spare, rfl, rfl, h1, h2, h3⟩
    · exact grow none 0 (by simpa using hn) (by simp [Builtin.firstCells, Lay.all]) rfl
    · by_cases hroom : xs.length + n ≤ cap
      · have hsz : (eByte.all xs ++ spare).length = cap := by rw [h3]; show cap * 1 = cap; omega
        have hr := run_appz_room t u ty i k ht hu hi hz0 hz1 hz2 b xs.length cap n (eByte.all xs ++ spare).toArray (w := w) (P := P) (S.hc.at_ 0 rfl) hroom (by rw [List.size_toArray, hsz]; exact hroom) ⟨hn, by omega⟩ kk
        have hT := S.turn 0 (o' := C e (put (eByte.all xs ++ spare) xs.length (List.replicate n (Value.int .u8 0)))) rfl (w1 := w.setRow b ((eByte.all xs ++ spare).toArray.toList.take xs.length ++ List.replicate n (Value.int .u8 0) ++ (eByte.all xs ++ spare).toArray.toList.drop (xs.length + n)).toArray) (by
          have hg := S.hc.at_ 0 (k := b) (o := C e (eByte.all xs ++ spare)) rfl
          have hlt := blk_lt' hg
          refine ⟨rfl, rfl, rfl, by simp [World.setRow], ?_, fun k hk => ?_⟩
          · simp [World.setRow, Array.getElem?_modify, hg, C, put]
          · simp only [World.setRow, Array.getElem?_modify]
            rw [if_neg (fun e => hk e.symm)])
        refine ⟨_, _, [(b, C e (eByte.all (xs ++ List.replicate n 0) ++ spare.drop n))], hr, ?_, ?_⟩
        · refine .inr ⟨b, cap, spare.drop n, by simp, rfl, by simpa using hroom, h2, ?_⟩
          have hl1 : (eByte.all xs).length = xs.length * 1 := eByte.all_len xs
          rw [List.length_append, eByte.all_len, List.length_drop]
          rw [List.length_append, hl1] at hsz
          simp
          show (xs.length + n) * 1 + _ = cap * 1
          omega
        · refine hT.cast ?_
          have hl1 : (eByte.all xs).length = xs.length := by rw [eByte.all_len]; show xs.length * 1 = _; omega
          rw [eByte.all_append, all_zero]
          unfold put
          rw [List.take_append_of_le_length (by omega), List.take_of_length_le (by omega), List.drop_append, List.drop_eq_nil_of_le (by simp; omega)]
          simp [hl1]
      · exact grow (some ⟨b, 0, none⟩) cap (by omega) (by
          have := run_firstCells_some (P := P) w.drew 1 xs.length ⟨b, 0, none⟩ xs.length cap (eByte.all xs) (by rw [eByte.all_len]; rfl) (fun j v hj => by
            have : (⟨b, 0, none⟩ : Addr).add j = ⟨b, j, none⟩ := by unfold Addr.add; split <;> simp_all
            rw [this]
            exact S.drew.cell 0 rfl j (by rw [List.getElem?_append_left (List.getElem?_eq_some_iff.1 hj).1]; exact hj))
          exact this) rfl
end
end Go.Proofs.YtnobknmhffaoeaaGreatDoor
namespace Go.Proofs.YtnobknmhffaoeaaGreatDoor
open Go.RowKit
def be (width v : Nat) : List UInt8 := (List.range width).map fun k => UInt8.ofNat (v >>> (8 * (width - 1 - k)))
def rightW (x : Int) : Bool := decide (x = 1 ∨ x = 2 ∨ x = 4 ∨ x = 8)
section
variable (w : World)
set_option maxHeartbeats 1000000 in
theorem word_right (x : Int) : Calls Tryz.prog 80 #[.int .i64 x] w fun e w' => e = .returned (.bool (rightW x)) ∧ w = w' := by
  have hy : Hid ((x = 1 ∨ x = 2 ∨ x = 4 ∨ x = 8) → rightW x = true) := by show _ → _; intro h; exact decide_eq_true h
  have hn : Hid (¬ (x = 1 ∨ x = 2 ∨ x = 4 ∨ x = 8) → rightW x = false) := by show _ → _; intro h; exact decide_eq_false h
  generalize rightW x = r at *
  by_cases h1 : x = 1
  · subst h1
    go_enter Tryz.func80, Tryz.ntmps80
    go_wp2
    go_ret
    exact ⟨ret_bool (hy.out (by simp)).symm, rfl⟩
  by_cases h2 : x = 2
  · subst h2
    go_enter Tryz.func80, Tryz.ntmps80
    go_wp2
    go_ret
    exact ⟨ret_bool (hy.out (by simp)).symm, rfl⟩
  by_cases h3 : x = 4
  · subst h3
    go_enter Tryz.func80, Tryz.ntmps80
    go_wp2
    go_ret
    exact ⟨ret_bool (hy.out (by simp)).symm, rfl⟩
  have b1 : (x == 1) = false := by rw [beq_eq_false_iff_ne]; exact h1
  have b2 : (x == 2) = false := by rw [beq_eq_false_iff_ne]; exact h2
  have b3 : (x == 4) = false := by rw [beq_eq_false_iff_ne]; exact h3
  by_cases h4 : x = 8
  · subst h4
    go_enter Tryz.func80, Tryz.ntmps80
    go_wp2
    go_ret
    exact ⟨ret_bool (hy.out (by simp)).symm, rfl⟩
  · have b4 : (x == 8) = false := by rw [beq_eq_false_iff_ne]; exact h4
    go_enter Tryz.func80, Tryz.ntmps80
    go_wp2
    go_ret
    exact ⟨ret_bool (hn.out (by omega)).symm, rfl⟩
set_option maxRecDepth 100000 in
set_option maxHeartbeats 1000000 in
theorem word_put (u : Value) (bs : List UInt8) (hr : Rd eByte w u bs) (hl : bs.length ≤ 1000000000) (width v : Nat) (hw : width = 1 ∨ width = 2 ∨ width = 4 ∨ width = 8) (hv : v < 18446744073709551616) :
    Calls Tryz.prog 54 #[u, .int .i64 width, .int .u64 v] w fun e w' => ∃ r L, e = .returned r ∧ Own eByte 5 r (bs ++ be width v) L ∧ St w (FP w []) w' L := by
  have hcl := Lib.hid (clone_byte w u bs hr (by omega))
  have hri := Lib.hid (fun w => word_right w width)
  rw [show rightW width = true from decide_eq_true (by omega)] at hri
  have q1 : IntKind.i64.wrap ((width : Int) - 1) = (width : Int) - 1 := IntWalk.i64_in _ (by omega)
  have hbe : Hid ((be width v).length = width) := by show _ = _; simp [be]
  have hL := Lib.hid hl
  have hV := Lib.hid hv
  clear hr hl hv
  go_enter Tryz.func54, Tryz.ntmps54
  go_wp2_with (first | (go_at_call 59; refine hcl.out.mono ?_; rintro e w1 ⟨ov, L, rfl, O, S⟩) | (go_at_call 80; refine (hri.out _).mono ?_; rintro e w' ⟨rfl, rfl⟩))
  go_loopw [7, 8] (fun rv iv wr => ∃ j L', j ≤ width ∧ iv = .int .i64 ((width : Int) - 1 - j) ∧ Own eByte 5 rv (bs ++ (be width v).take j) L' ∧ St w (FP w []) wr L') (fun _ iv _ => (intOf iv + 1).toNat)
  case atStart => exact ⟨0, L, by omega, by simp, by simpa using O, S⟩
  case round =>
    obtain ⟨j, L', hj, rfl, O', S'⟩ := hrel
    by_cases hjw : j < width
    · have q2 : 0 ≤ (width : Int) - 1 - j := by omega
      have q3 : IntKind.i64.wrap (8 * ((width : Int) - 1 - j)) = ((8 * (width - 1 - j) : Nat) : Int) := by rw [IntWalk.i64_in _ (by omega)]; omega
      have q4 : IntKind.i64.wrap ((width : Int) - 1 - j - 1) = (width : Int) - 1 - (j + 1 : Nat) := by rw [IntWalk.i64_in _ (by omega)]; omega
      have q5 : ((v : Int) / 2 ^ (8 * (width - 1 - j)) % 256) = ((UInt8.ofNat (v >>> (8 * (width - 1 - j)))).toNat : Int) := by
        rw [UInt8.toNat_ofNat', Nat.shiftRight_eq_div_pow]; push_cast; rfl
      have hlen : Hid ((bs ++ (be width v).take j).length ≤ 1000000008) := by
        show _ ≤ _; have := hL.out; have := hbe.out; simp; omega
      have S'' : St w (FP w []) wr (L' ++ []) := by rw [List.append_nil]; exact S'
      go_wp2_with (at_builtin; refine wpl_append1 (A := L') (R := []) (E := eByte) (x := UInt8.ofNat (v >>> (8 * (width - 1 - j)))) (S''.alloc _) O' rfl _ _ 29 rfl _ 1 Tryz.underlying29 info_byte rfl rfl rfl ?_ ?_; (exact ⟨by have := hlen.out; omega, by omega⟩))
      intro v' w4 L2 O2 S2
      go_wp2_with fail
      go_roundw
      case rel =>
        refine ⟨j + 1, L2, by omega, by simp, ?_, by simpa using S2⟩
        have e : (be width v).take (j + 1) = (be width v).take j ++ [UInt8.ofNat (v >>> (8 * (width - 1 - j)))] := by
          rw [List.take_add_one]
          simp [be, hjw]
        rw [e]; exact O2
      case measure => simp [intOf]; omega
    · have hjw2 : j = width := by omega
      subst hjw2
      have q2 : ¬ 0 ≤ (j : Int) - 1 - j := by omega
      go_wp2_with fail
      go_ret
      refine ⟨_, rfl, L', ?_, S'⟩
      rwa [List.take_of_length_le (by rw [hbe.out]; omega)] at O'
end
end Go.Proofs.YtnobknmhffaoeaaGreatDoor
namespace Go.Proofs.YtnobknmhffaoeaaGreatDoor
open Go.RowKit
section
variable {P : Program} {e : Nat} {w0 w : World} {F : Nat → Prop} {xs : List UInt8} {A R : Blocks} {ops : Array Oper} {rest : List Oper} {o : Oper} {a : Act} {Q : Exit → Act → World → Prop}
theorem wpl_appS {v : Value} (S : St w0 F w (A ++ R)) (O : Own eByte e v xs A) (hgd : o.guard = none) (s y : Operand) (t u : Nat)
    (ho : o.op = .call { callee := .builtin .append, args := #[s, y], argTypes := #[t, u] }) (ht : P.underlying t = some (.slice e)) (hu : P.underlying u = some .string)
    (hinfo : (P.info? e).map (fun i => (i.zero, i.size, i.bytes)) = some (some (.int .u8 0), 1, 1)) (x : ByteArray) (hs : a.eval s = v) (hy : a.eval y = .string x) (hb : xs.length + x.size ≤ 2147483648)
    (K : ∀ v' w' A', Own eByte e v' (xs ++ bytesL x) A' → St w0 F w' (A' ++ R) → wpList P ops Q rest (a.put o.dst v') w') : wpList P ops Q (o :: rest) a w := by
  refine wpList_plain hgd fun K' hK => ?_
  obtain ⟨v', w', A', hr, O', S'⟩ := run_appendStr S O t u o.type ht hu hinfo x hb
  unfold Oper.wp execOp
  simp only [ho, resolve, invoke, builtin, Sem.run_bind, Sem.run_pure, Result.andThen_ok, List.map_toArray, List.map_cons, List.map_nil, hs, hy, hr]
  exact hK _ _ (K v' w' A' O' S')
theorem wpl_appZ {v : Value} (S : St w0 F w (A ++ R)) (O : Own eByte e v xs A) (hgd : o.guard = none) (s y : Operand) (t u : Nat)
    (ho : o.op = .call { callee := .builtin .append, args := #[s, y], argTypes := #[t, u] }) (ht : P.underlying t = some (.slice e)) (k : IntKind) (hu : P.underlying u = some (.int k))
    (hinfo : (P.info? e).map (fun i => (i.zero, i.size, i.bytes)) = some (some (.int .u8 0), 1, 1)) (kk : IntKind) (n : Nat) (hs : a.eval s = v) (hy : a.eval y = .int kk n) (hb : xs.length + n ≤ 2147483648)
    (K : ∀ v' w' A', Own eByte e v' (xs ++ List.replicate n 0) A' → St w0 F w' (A' ++ R) → wpList P ops Q rest (a.put o.dst v') w') : wpList P ops Q (o :: rest) a w := by
  refine wpList_plain hgd fun K' hK => ?_
  obtain ⟨v', w', A', hr, O', S'⟩ := run_appz S O t u o.type k ht hu hinfo n hb kk
  unfold Oper.wp execOp
  simp only [ho, resolve, invoke, builtin, Sem.run_bind, Sem.run_pure, Result.andThen_ok, List.map_toArray, List.map_cons, List.map_nil, hs, hy, hr]
  exact hK _ _ (K v' w' A' O' S')
end
section
variable (w : World)
set_option maxRecDepth 100000 in
set_option maxHeartbeats 1000000 in
theorem code_num (v : Value) (bs : List UInt8) (A : Blocks) (O : Own eByte 5 v bs A) (H : HC w A) (hl : bs.length ≤ 1000000000) (width n : Nat) (hw : width = 1 ∨ width = 2 ∨ width = 4 ∨ width = 8) (hn : n < 18446744073709551616) :
    Calls Tryz.prog 110 #[v, .int .i64 width, .int .u64 n] w fun e w' => ∃ r L, e = .returned r ∧ Own eByte 5 r (bs ++ be width n) L ∧ St w (FP w A) w' L := by
  have hpu := Lib.hid (word_put w (.slice none 0 0) [] (Rd.nil _ _) (by simp) width n hw hn)
  have hbe : Hid ((be width n).length ≤ 8) := by show _ ≤ _; simp [be]; omega
  have hL := Lib.hid hl
  have S := H.st
  clear hl hn hw
  go_enter Tryz.func110, Tryz.ntmps110
  go_wp2_with (go_at_call 54; refine hpu.out.mono ?_)
  rintro e w1 ⟨r, L, rfl, O1, S1⟩
  have S2 := (S.pure S1).swap
  have hrd := O1.rd S2.hc.right
  go_wp2_with (at_builtin; refine wpl_append (E := eByte) S2 O hrd rfl _ _ 29 rfl _ 1 Tryz.underlying29 info_byte rfl rfl rfl ?_ ?_; (exact ⟨by have := hL.out; have := hbe.out; simp; omega, by omega⟩))
  intro v' w2 L2 O2 S3
  go_wp2
  go_ret
  exact ⟨_, L2, rfl, by simpa using O2, S3.left⟩
set_option maxRecDepth 100000 in
set_option maxHeartbeats 1000000 in
theorem code_text (v : Value) (bs : List UInt8) (A : Blocks) (O : Own eByte 5 v bs A) (H : HC w A) (hl : bs.length ≤ 1000000000) (x : ByteArray) (most : Nat) (hm : x.size ≤ most) (hm2 : most ≤ 1000000) :
    Calls Tryz.prog 111 #[v, .string x, .int .i64 most] w fun e w' => ∃ r L, e = .returned r ∧ Own eByte 5 r (bs ++ bytesL x ++ List.replicate (most - x.size) 0) L ∧ St w (FP w A) w' L := by
  have S : St w (FP w A) w (A ++ []) := by rw [List.append_nil]; exact H.st
  have k1 : IntKind.i64.wrap ((most : Int) - (x.size : Int)) = ((most - x.size : Nat) : Int) := by rw [IntWalk.i64_in _ (by omega)]; omega
  have hL : Hid (bs.length + x.size ≤ 2147483648 ∧ (bs ++ bytesL x).length + (most - x.size) ≤ 2147483648) := by
    show _ ∧ _; rw [List.length_append, bytesL_len]; omega
  clear hl hm hm2
  go_enter Tryz.func111, Tryz.ntmps111
  go_wp2_with (at_builtin; refine wpl_appS S O rfl _ _ 29 9 rfl Tryz.underlying29 Tryz.underlying9 info_byte x rfl rfl ?_ ?_; (exact hL.out.1))
  intro v1 w1 L1 O1 S1
  replace S1 : St w (FP w A) w1 (L1 ++ []) := S1.cast (by simp)
  go_wp2_with (at_builtin; refine wpl_appZ S1 O1 rfl _ _ 29 3 rfl Tryz.underlying29 .i64 Tryz.underlying3 info_byte .i64 (most - x.size) rfl rfl ?_ ?_; (exact hL.out.2))
  intro v2 w2 L2 O2 S2
  go_wp2
  go_ret
  exact ⟨_, L2, rfl, by rw [List.append_assoc]; exact O2, S2.cast (by simp)⟩
end
end Go.Proofs.YtnobknmhffaoeaaGreatDoor
namespace Go.Proofs.YtnobknmhffaoeaaGreatDoor
open Go.RowKit
def frontL (kind level count buf : Nat) : List UInt8 := be 1 kind ++ be 1 level ++ be 2 count ++ be 2 buf ++ be 2 0
theorem be_len (w v : Nat) : (be w v).length = w := by simp [be]
section
variable (w : World)
theorem u64_wrap (n : Nat) (h : n ≤ 1000000) : IntKind.u64.wrap (n : Int) = (n : Int) := by
  simp only [IntKind.wrap, IntKind.bits, IntKind.signed]; simp; omega
set_option maxRecDepth 100000 in
set_option maxHeartbeats 1000000 in
theorem code_front (kind level count buf : Nat) (h1 : kind ≤ 1000000) (h2 : level ≤ 1000000) (h3 : count ≤ 1000000) (h4 : buf ≤ 1000000) :
    Calls Tryz.prog 108 #[.int .i64 kind, .int .i64 level, .int .i64 count, .int .i64 buf] w fun e w' => ∃ r L, e = .returned r ∧ Own eByte 5 r (frontL kind level count buf) L ∧ St w (FP w []) w' L := by
  have q1 := u64_wrap kind h1
  have q2 := u64_wrap level h2
  have q3 := u64_wrap count h3
  have q4 := u64_wrap buf h4
  have n1 := Lib.hid (fun w v bs A O H hl => code_num w v bs A O H hl 1 kind (by omega) (by omega))
  have n2 := Lib.hid (fun w v bs A O H hl => code_num w v bs A O H hl 1 level (by omega) (by omega))
  have n3 := Lib.hid (fun w v bs A O H hl => code_num w v bs A O H hl 2 count (by omega) (by omega))
  have n4 := Lib.hid (fun w v bs A O H hl => code_num w v bs A O H hl 2 buf (by omega) (by omega))
  have n5 := Lib.hid (fun w v bs A O H hl => code_num w v bs A O H hl 2 0 (by omega) (by omega))
  clear h1 h2 h3 h4
  go_enter Tryz.func108, Tryz.ntmps108
  go_wp2_with (go_at_call 110; refine (n1.out _ _ [] [] (Own.nil _ _) (HC.nil _) (by simp)).mono ?_)
  rintro e w1 ⟨r1, L1, rfl, O1, S1⟩
  go_wp2_with (go_at_call 110; refine (n2.out _ _ _ _ O1 S1.hc (by simp [be_len])).mono ?_)
  rintro e w2 ⟨r2, L2, rfl, O2, S2⟩
  replace S2 := S1.seq S2
  go_wp2_with (go_at_call 110; refine (n3.out _ _ _ _ O2 S2.hc (by simp [be_len])).mono ?_)
  rintro e w3 ⟨r3, L3, rfl, O3, S3⟩
  replace S3 := S2.seq S3
  go_wp2_with (go_at_call 110; refine (n4.out _ _ _ _ O3 S3.hc (by simp [be_len])).mono ?_)
  rintro e w4 ⟨r4, L4, rfl, O4, S4⟩
  replace S4 := S3.seq S4
  go_wp2_with (go_at_call 110; refine (n5.out _ _ _ _ O4 S4.hc (by simp [be_len])).mono ?_)
  rintro e w5 ⟨r5, L5, rfl, O5, S5⟩
  replace S5 := S4.seq S5
  go_wp2
  go_ret
  exact ⟨_, L5, rfl, by simpa [frontL] using O5, S5⟩
end
end Go.Proofs.YtnobknmhffaoeaaGreatDoor
namespace Go.Proofs.YtnobknmhffaoeaaGreatDoor
open Go.RowKit
def slotL (s : ByteArray) (most : Nat) : List UInt8 := bytesL s ++ List.replicate (most - s.size) 0
def pairL (ck cv : Nat) (key val : ByteArray) : List UInt8 := be 1 key.size ++ be 2 val.size ++ slotL key ck ++ slotL val cv
section
variable (w : World)
set_option maxRecDepth 100000 in
set_option maxHeartbeats 2000000 in
theorem code_pair (c : Cfg) (ck cv : Nat) (hk : c.key = ck) (hv : c.val = cv) (v : Value) (bs : List UInt8) (A : Blocks) (O : Own eByte 5 v bs A) (H : HC w A) (hl : bs.length ≤ 900000000) (key val : ByteArray)
    (h1 : key.size ≤ ck) (h2 : val.size ≤ cv) (h3 : ck ≤ 1000) (h4 : cv ≤ 1000) :
    Calls Tryz.prog 109 #[c.v, v, .string key, .string val] w fun e w' => ∃ r L, e = .returned r ∧ Own eByte 5 r (bs ++ pairL ck cv key val) L ∧ St w (FP w A) w' L := by
  have q1 := u64_wrap key.size (by omega)
  have q2 := u64_wrap val.size (by omega)
  have n1 := Lib.hid (fun w v bs A O H hl => code_num w v bs A O H hl 1 key.size (by omega) (by omega))
  have n2 := Lib.hid (fun w v bs A O H hl => code_num w v bs A O H hl 2 val.size (by omega) (by omega))
  have t1 := Lib.hid (fun w v bs A O H hl => code_text w v bs A O H hl key ck h1 (by omega))
  have t2 := Lib.hid (fun w v bs A O H hl => code_text w v bs A O H hl val cv h2 (by omega))
  have hL := Lib.hid hl
  have b1 : Hid ((bs ++ be 1 key.size).length ≤ 1000000000 ∧ (bs ++ be 1 key.size ++ be 2 val.size).length ≤ 1000000000 ∧ (bs ++ be 1 key.size ++ be 2 val.size ++ bytesL key ++ List.replicate (ck - key.size) 0).length ≤ 1000000000) := by
    show _ ∧ _ ∧ _; simp only [List.length_append, be_len, bytesL_len, List.length_replicate]; omega
  obtain ⟨blocks, bytes, frames, fan, buffer, leaf, ckk, cvv⟩ := c
  unfold Cfg.v Cfg.cells
  dsimp only at *
  subst hk
  subst hv
  clear h1 h2 h3 h4 hl
  have S0 := H.st
  generalize FP w A = F at *
  go_enter Tryz.func109, Tryz.ntmps109
  go_wp2_with (refine wpl_box S0 rfl _ _ rfl _ rfl ?_)
  intro g w1 hg S1
  replace S1 : St w F w1 (A ++ [(g, C 23 [.int .i64 blocks, .int .i64 bytes, .int .i64 frames, .int .i64 fan, .int .i64 buffer, .int .i64 leaf, .int .i64 ck, .int .i64 cv])]) := (S1.cast (L' := [(g, C 23 [.int .i64 blocks, .int .i64 bytes, .int .i64 frames, .int .i64 fan, .int .i64 buffer, .int .i64 leaf, .int .i64 ck, .int .i64 cv])] ++ A) rfl).swap
  go_wp2_with (go_at_call 110; refine (n1.out _ _ _ _ O S1.hc.left (by have := hL.out; omega)).mono ?_)
  rintro e w2 ⟨r2, L2, rfl, O2, S2⟩
  replace S2 := S1.call S2
  go_wp2_with (go_at_call 110; refine (n2.out _ _ _ _ O2 S2.hc.left b1.out.1).mono ?_)
  rintro e w3 ⟨r3, L3, rfl, O3, S3⟩
  replace S3 := S2.call S3
  clear S0 S1 S2
  go_wp2_with fail
  have d6 : w3.cell? ⟨g, 6, none⟩ = some (.int .i64 ck) := S3.swap.cell 0 rfl 6 rfl
  have d7 : w3.cell? ⟨g, 7, none⟩ = some (.int .i64 cv) := S3.swap.cell 0 rfl 7 rfl
  go_region_with (first | ((go_at_call 111; refine (t2.out w4 _ _ _ O4 S4.hc.left b1.out.2.2).mono ?_; rintro e w5 ⟨r5, L5, rfl, O5, S5⟩; replace S5 := S4.call S5)) | ((go_at_call 111; refine (t1.out w3.drew _ _ _ O3 S3.drew.hc.left b1.out.2.1).mono ?_; rintro e w4 ⟨r4, L4, rfl, O4, S4⟩; replace S4 := S3.drew.call S4; have f7 := S4.swap.cell 0 rfl 7 rfl)))
  all_goals go_wp2
  all_goals go_ret
  all_goals refine ⟨r5, L5, rfl, ?_, S5.left⟩
  all_goals simpa [pairL, slotL] using O5
end
end Go.Proofs.YtnobknmhffaoeaaGreatDoor
