/- slices.Clone: a row of the call's own that reads as the row that came in. dev: a device of blocks: what each call does. A map from uint32 to int that a struct holds: its block reads as a list of pairs. No program is named. The plain law of the ring: numbers linked in a circle are a list. No program is named. chain: the row of numbers: what each call does. -/
import Derived.Test.YtnobknmhffaoeaaGreatDoorQBase
import Derived.Test.YtnobknmhffaoeaaGreatDoorProg
import Derived.Lib.SliceRun
set_option linter.unusedVariables false
set_option linter.unusedSimpArgs false
namespace Go.Proofs.YtnobknmhffaoeaaGreatDoor
open Go.RowKit
theorem Rd.none_nil {α : Type} {E : Lay α} {w : World} {xs : List α} {n c : Nat} (h : Rd E w (.slice none n c) xs) : xs = [] := by
  obtain ⟨A, c', h0, h1, h2, h3⟩ := h
  injection h0 with hA hn hc; subst hA
  cases xs with
  | nil => rfl
  | cons x xs =>
    have h0 : 0 < (E.all (x :: xs)).length := by rw [E.all_len]; exact Nat.mul_pos (by simp) E.pos
    obtain ⟨b, off, h, _⟩ := h3 0 _ (List.getElem?_eq_getElem h0)
    cases h
theorem lt_of_cell {w : World} {b off : Nat} {u : Value} (h : w.cell? ⟨b, off, none⟩ = some u) : b < w.heap.size := by
  rcases Nat.lt_or_ge b w.heap.size with h' | h'
  · exact h'
  · simp [World.cell?, Array.getElem?_eq_none h'] at h
theorem Rd.below {α : Type} {E : Lay α} {w w1 : World} {v : Value} {xs : List α} (h : Rd E w v xs) (hk : ∀ b, b < w.heap.size → w1.heap[b]? = w.heap[b]?) : Rd E w1 v xs := by
  obtain ⟨A, c, rfl, h1, h2, h3⟩ := h
  refine ⟨A, c, rfl, h1, h2, fun k u hu => ?_⟩
  obtain ⟨b, off, rfl, hc⟩ := h3 k u hu
  exact ⟨b, off, rfl, (World.cell?_of_block (w := w) (w' := w1) (a := ⟨b, off + k, none⟩) (hk b (lt_of_cell hc))).trans hc⟩
theorem Rd.alloc {α : Type} {E : Lay α} {w : World} {v : Value} {xs : List α} (h : Rd E w v xs) (o : Obj) : Rd E (w.alloc o) v xs := h.below fun _ hb => heap_alloc_old w o hb
theorem Rd.st {α : Type} {E : Lay α} {w w1 : World} {v : Value} {xs : List α} {R : Blocks} (h : Rd E w v xs) (S : St w (FP w []) w1 R) : Rd E w1 v xs :=
  h.below fun b hb => S.kept b hb (fun h => by rcases h with h | h; simp [keysOf] at h; omega)
theorem Own.empty {α : Type} (E : Lay α) (e g : Nat) : Own E e (.slice (some ⟨g, 0, none⟩) 0 0) [] [(g, C e [])] := .inr ⟨g, 0, [], rfl, rfl, Nat.le_refl _, Nat.zero_le _, by simp [Lay.all]⟩
theorem info_byte : (Tryz.prog.info? 5).map (fun i => (i.zero, i.size, i.bytes)) = some (some (.int .u8 0), 1, 1) := by kernel_rfl
set_option maxRecDepth 100000 in
set_option maxHeartbeats 1000000 in
theorem clone_byte (w : World) (v : Value) (xs : List _) (h : Rd eByte w v xs) (hl : xs.length ≤ 2147483648) :
    Calls Tryz.prog 59 #[v] w fun e w' => ∃ u L, e = .returned u ∧ Own eByte 5 u xs L ∧ St w (FP w []) w' L := by
  have hr := Lib.hid h
  have q : ∀ (w : World) (a : Option Addr) (n c n' c' : Nat), (binOp .eql 29 (.slice a n c) (.slice none n' c')).run Tryz.prog w = .ok (.bool a.isNone) w := fun w a n c n' c' => Lib.run_eql_slice_nil w _ _ a n c n' c' Tryz.underlying29
  obtain ⟨A, c, rfl, h1, h2, _⟩ := h
  have hL := Lib.hid hl
  clear h1 h2 hl
  cases A with
  | none =>
    have := hr.out.none_nil
    subst this
    go_enter Tryz.func59, Tryz.ntmps59
    go_wp2
    go_ret
    exact ⟨_, [], rfl, Own.nil _ _, St.nil w⟩
  | some a =>
    go_enter Tryz.func59, Tryz.ntmps59
    go_wp2_with (at_builtin; refine wpl_append (A := [_]) (R := []) (E := eByte) (xs := []) ((St.nil w).alloc (.cells #[] 5)) (Own.empty _ _ _) (ys := xs) (hr.out.alloc _) rfl _ _ 29 rfl _ 1 Tryz.underlying29 info_byte rfl rfl rfl ?_ ?_; (exact ⟨by simpa using hL.out, by omega⟩))
    intro v' w' A' O S
    go_wp2
    go_ret
    exact ⟨_, A', rfl, O, S⟩
theorem info_u32 : (Tryz.prog.info? 53).map (fun i => (i.zero, i.size, i.bytes)) = some (some (.int .u32 0), 1, 4) := by kernel_rfl
set_option maxRecDepth 100000 in
set_option maxHeartbeats 1000000 in
theorem clone_u32 (w : World) (v : Value) (xs : List _) (h : Rd (eNat .u32) w v xs) (hl : xs.length ≤ 2147483648) :
    Calls Tryz.prog 145 #[v] w fun e w' => ∃ u L, e = .returned u ∧ Own (eNat .u32) 53 u xs L ∧ St w (FP w []) w' L := by
  have hr := Lib.hid h
  have q : ∀ (w : World) (a : Option Addr) (n c n' c' : Nat), (binOp .eql 62 (.slice a n c) (.slice none n' c')).run Tryz.prog w = .ok (.bool a.isNone) w := fun w a n c n' c' => Lib.run_eql_slice_nil w _ _ a n c n' c' Tryz.underlying62
  obtain ⟨A, c, rfl, h1, h2, _⟩ := h
  have hL := Lib.hid hl
  clear h1 h2 hl
  cases A with
  | none =>
    have := hr.out.none_nil
    subst this
    go_enter Tryz.func145, Tryz.ntmps145
    go_wp2
    go_ret
    exact ⟨_, [], rfl, Own.nil _ _, St.nil w⟩
  | some a =>
    go_enter Tryz.func145, Tryz.ntmps145
    go_wp2_with (at_builtin; refine wpl_append (A := [_]) (R := []) (E := (eNat .u32)) (xs := []) ((St.nil w).alloc (.cells #[] 53)) (Own.empty _ _ _) (ys := xs) (hr.out.alloc _) rfl _ _ 62 rfl _ 4 Tryz.underlying62 info_u32 rfl rfl rfl ?_ ?_; (exact ⟨by simpa using hL.out, by omega⟩))
    intro v' w' A' O S
    go_wp2
    go_ret
    exact ⟨_, A', rfl, O, S⟩
end Go.Proofs.YtnobknmhffaoeaaGreatDoor
namespace Go.Proofs.YtnobknmhffaoeaaGreatDoor
open Go.RowKit
/-- A device: how many blocks, and bytes of each; the image; how many reads and writes. -/
structure Dv where
  blocks : Nat
  bytes : Nat
  img : List (List UInt8)
  reads : Nat
  writes : Nat
structure Dv.Ok (d : Dv) : Prop where
  b0 : 1 ≤ d.blocks
  b1 : d.blocks ≤ 65536
  y0 : 1 ≤ d.bytes
  y1 : d.bytes ≤ 65536
  len : d.img.length = d.blocks
  each : ∀ x ∈ d.img, x.length = d.bytes
theorem flat_len {n : Nat} : ∀ {img : List (List UInt8)}, (∀ x ∈ img, x.length = n) → img.flatten.length = img.length * n
  | [], _ => by simp
  | a :: l, h => by
    rw [List.flatten_cons, List.length_append, flat_len (fun x hx => h x (List.mem_cons_of_mem _ hx)), h a List.mem_cons_self, List.length_cons, Nat.add_mul]; omega
theorem flat_part {n : Nat} : ∀ {img : List (List UInt8)} {i : Nat} {x : List UInt8}, (∀ x ∈ img, x.length = n) → img[i]? = some x → (img.flatten.drop (i * n)).take n = x
  | [], i, x, _, h => by simp at h
  | a :: l, 0, x, he, h => by
    simp at h; subst h
    have := he a List.mem_cons_self
    rw [List.flatten_cons, Nat.zero_mul, List.drop_zero, List.take_append_of_le_length (by omega), List.take_of_length_le (by omega)]
  | a :: l, i + 1, x, he, h => by
    have := he a List.mem_cons_self
    rw [List.flatten_cons, Nat.add_mul, List.drop_append, List.drop_eq_nil_of_le (by omega), show i * n + 1 * n - a.length = i * n by omega, List.nil_append]
    exact flat_part (fun x hx => he x (List.mem_cons_of_mem _ hx)) (by simpa using h)
theorem flat_put {n : Nat} : ∀ {img : List (List UInt8)} {i : Nat} {x : List UInt8}, (∀ x ∈ img, x.length = n) → x.length = n → i < img.length → img.flatten.take (i * n) ++ x ++ img.flatten.drop (i * n + n) = (img.set i x).flatten
  | [], i, x, _, _, h => by simp at h
  | a :: l, 0, x, he, hx, h => by
    have := he a List.mem_cons_self
    simp [List.flatten_cons, this]
  | a :: l, i + 1, x, he, hx, h => by
    have := he a List.mem_cons_self
    have ih := flat_put (i := i) (x := x) (fun x hx => he x (List.mem_cons_of_mem _ hx)) hx (by simpa using h)
    rw [List.set_cons_succ, List.flatten_cons, List.flatten_cons, ← ih, Nat.add_mul, Nat.one_mul, List.take_append, List.take_of_length_le (by omega), List.drop_append, List.drop_eq_nil_of_le (by omega), show i * n + n - a.length = i * n by omega, show i * n + n + n - a.length = i * n + n by omega]
    simp
/-- Where the device lies. -/
structure DAt where
  g : Nat
  b : Nat
def devB (z : DAt) (d : Dv) : Blocks :=
  [(z.g, C 86 [.int .i64 d.bytes, .slice (some ⟨z.b, 0, none⟩) (d.blocks * d.bytes) (d.blocks * d.bytes), .int .u64 d.reads, .int .u64 d.writes]), (z.b, C 5 (eByte.all d.img.flatten))]
def tick (n : Nat) : Nat := (n + 1) % 18446744073709551616
theorem mul_le_32 {a b : Nat} (ha : a ≤ 65536) (hb : b ≤ 65536) : a * b ≤ 4294967296 := Nat.mul_le_mul ha hb
theorem drewN_two (w : World) (a b : Nat) : (w.drewN a).drewN b = w.drewN (a + b) := by simp [World.drewN, Nat.add_assoc]
theorem Rd.drewN {α : Type} {E : Lay α} {w : World} {v : Value} {xs : List α} (h : Rd E w v xs) (q : Nat) : Rd E (w.drewN q) v xs := h
section
variable (z : DAt) (d : Dv) (w : World)
set_option maxHeartbeats 1000000 in
theorem dev_blocks (K : d.Ok) (H : HC w (devB z d)) : Calls Tryz.prog 44 #[.pointer (some ⟨z.g, 0, none⟩)] w fun e w' => e = .returned (.int .i64 d.blocks) ∧ ∃ q, w' = w.drewN q := by
  have S := H.st
  unfold devB at S
  have c0 := S.cell 0 rfl 0 rfl
  have c1 := S.cell 0 rfl 1 rfl
  have hm := mul_le_32 K.b1 K.y1
  have k1 : Hid (wrap64 (((d.blocks * d.bytes : Nat) : Int) / (d.bytes : Int)) = (d.blocks : Int)) := by
    show _ = _
    rw [← Int.natCast_ediv, Nat.mul_div_cancel _ K.y0]
    have h1 := K.b1
    unfold wrap64; omega
  have k2 : ¬ (d.bytes : Int) = 0 := by have := K.y0; omega
  have k3 : ((d.bytes : Int) == 0) = false := by rw [beq_eq_false_iff_ne]; exact k2
  generalize d.blocks * d.bytes = N at *
  generalize d.blocks = blocks at *
  generalize d.bytes = bytes at *
  clear K S hm
  go_enter Tryz.func44, Tryz.ntmps44
  go_wp2_with fail
  go_quiet (fail)
  go_wp2
  go_ret
  exact ⟨ret_int k1.out, _, rfl⟩
set_option maxHeartbeats 1000000 in
theorem dev_bytes (H : HC w (devB z d)) : Calls Tryz.prog 45 #[.pointer (some ⟨z.g, 0, none⟩)] w fun e w' => e = .returned (.int .i64 d.bytes) ∧ w = w' := by
  have S := H.st
  unfold devB at S
  have c0 := S.cell 0 rfl 0 rfl
  clear S H
  go_enter Tryz.func45, Tryz.ntmps45
  go_wp2
  go_ret
  exact ⟨rfl, rfl⟩
set_option maxHeartbeats 1000000 in
theorem dev_at (K : d.Ok) (i : Nat) (hi : i < d.blocks) (H : HC w (devB z d)) : Calls Tryz.prog 58 #[.pointer (some ⟨z.g, 0, none⟩), .int .u32 i] w fun e w' =>
    e = .returned (.tuple #[.slice (some ⟨z.b, i * d.bytes, none⟩) d.bytes (d.blocks * d.bytes - i * d.bytes), .int .i64 0]) ∧ ∃ q, w' = w.drewN q := by
  have hb := Lib.hid (fun q => dev_blocks z d (w.drewN q) K (H.drewN q))
  have S := H.st
  unfold devB at S
  have c0 := S.cell 0 rfl 0 rfl
  have c1 := S.cell 0 rfl 1 rfl
  have hm := mul_le_32 K.b1 K.y1
  have h1 := K.b1
  have h2 := K.y1
  have h3 := K.b0
  have hlt : (i + 1) * d.bytes ≤ d.blocks * d.bytes := Nat.mul_le_mul_right _ hi
  rw [Nat.add_mul, Nat.one_mul] at hlt
  have k1 : ((d.blocks : Int) == 0) = false := by rw [beq_eq_false_iff_ne]; omega
  have k2 : (decide ((d.blocks : Int) ≤ (i : Int))) = false := by simp; omega
  have k3 : IntKind.i64.wrap ((i : Int) * (d.bytes : Int)) = ((i * d.bytes : Nat) : Int) := by rw [← Int.natCast_mul]; exact IntWalk.i64_in _ (by omega)
  have k4 : IntKind.i64.wrap (((i * d.bytes : Nat) : Int) + (d.bytes : Int)) = ((i * d.bytes + d.bytes : Nat) : Int) := by rw [← Int.natCast_add]; exact IntWalk.i64_in _ (by omega)
  have k5 : IntKind.i64.wrap (i : Int) = (i : Int) := IntWalk.i64_in _ (by omega)
  have h4 := K.y0
  have k6 : ¬ (d.blocks * d.bytes = i * d.bytes) := by omega
  clear S K
  generalize i * d.bytes = f at *
  generalize d.blocks * d.bytes = N at *
  generalize d.blocks = blocks at *
  generalize d.bytes = bytes at *
  go_enter Tryz.func58, Tryz.ntmps58
  go_wp2_with (go_at_call 44; (first | refine (hb.out _).mono ?_ | refine (hb.out 0).mono ?_); rintro e w' ⟨rfl, q, rfl⟩)
  go_quiet (fail)
  go_wp2
  go_ret2
  refine ⟨?_, _, drewN_two _ _ _⟩
  show Ending.returned (.tuple #[.slice _ (f + bytes - f) _, .int .i64 0]) = _
  rw [Nat.add_sub_cancel_left]
theorem all_map (l : List UInt8) : eByte.all l = l.map fun x => Value.int .u8 x.toNat := by
  induction l with
  | nil => rfl
  | cons a l ih => simp only [Lay.all, List.flatMap_cons, List.map_cons] at ih ⊢; rw [ih]; rfl
/-- A block of a row of bytes reads as a row. -/
theorem rd_part {F : Nat → Prop} {w0 : World} {L : Blocks} (S : St w0 F w L) (i : Nat) {b t : Nat} {img : List UInt8} {spare : List Value} (hi : L[i]? = some (b, C t (eByte.all img ++ spare))) (f n c : Nat) (h : f + n ≤ img.length) (hc : n ≤ c) (hm : c ≤ maxLen) :
    Rd eByte w (.slice (some ⟨b, f, none⟩) n c) ((img.drop f).take n) := by
  have hl : ((img.drop f).take n).length = n := by simp; omega
  refine ⟨_, c, by rw [hl], by rw [hl]; exact hc, hm, fun k u hu => ⟨b, f, rfl, ?_⟩⟩
  have e : (eByte.all img)[f + k]? = some u := by
    rw [all_map] at hu
    rw [all_map, List.getElem?_map]
    rw [List.getElem?_map, List.getElem?_take, List.getElem?_drop] at hu
    split at hu
    · exact hu
    · cases hu
  exact S.cell i hi (f + k) (by rw [List.getElem?_append_left (List.getElem?_eq_some_iff.1 e).1]; exact e)
theorem u8_size : (Tryz.prog.info? 5).map (·.size) = some 1 := by kernel_rfl
def Dv.read (d : Dv) : Dv := { d with reads := tick d.reads }
def Dv.write (d : Dv) (i : Nat) (x : List UInt8) : Dv := { d with img := d.img.set i x, writes := tick d.writes }
theorem Dv.Ok.write {d : Dv} (K : d.Ok) (i : Nat) {x : List UInt8} (hx : x.length = d.bytes) : (d.write i x).Ok :=
  ⟨K.b0, K.b1, K.y0, K.y1, by simp [Dv.write, K.len], fun y hy => by
    rcases List.mem_or_eq_of_mem_set hy with h | h
    · exact K.each y h
    · rw [h]; exact hx⟩
theorem Dv.Ok.read {d : Dv} (K : d.Ok) : d.read.Ok := ⟨K.b0, K.b1, K.y0, K.y1, K.len, K.each⟩
theorem Dv.Ok.flat {d : Dv} (K : d.Ok) : d.img.flatten.length = d.blocks * d.bytes := by rw [flat_len K.each, K.len]
theorem all_put (l : List UInt8) (off : Nat) (x : List UInt8) : put (eByte.all l) off (eByte.all x) = eByte.all (l.take off ++ x ++ l.drop (off + x.length)) := by
  simp only [all_map, put, List.map_append, List.map_take, List.map_drop, List.length_map]
theorem tick_eq (n : Nat) : IntKind.u64.wrap ((n : Int) + 1) = ((tick n : Nat) : Int) := by
  simp only [IntKind.wrap, IntKind.bits, IntKind.signed, tick]; simp
theorem dev_sizes : (∀ w, (sizeOf 82).run Tryz.prog w = .ok 1 w) := Tryz.sizeOf82
set_option maxRecDepth 100000 in
set_option maxHeartbeats 1000000 in
theorem dev_write (K : d.Ok) (i : Nat) (hi : i < d.blocks) (v : Value) (x : List UInt8) (hx : x.length = d.bytes) (hr : Rd eByte w v x) (H : HC w (devB z d)) :
    Calls Tryz.prog 23 #[.pointer (some ⟨z.g, 0, none⟩), .int .u32 i, v] w fun e w' => e = .returned (.int .i64 0) ∧ St w (FP w (devB z d)) w' (devB z (d.write i x)) := by
  have ha := Lib.hid (dev_at z d w K i hi H)
  have S := H.st
  have hput : Hid (put (eByte.all d.img.flatten) (i * d.bytes) (eByte.all (x.take d.bytes)) = eByte.all (d.write i x).img.flatten) := by
    show _ = _
    rw [List.take_of_length_le (by omega), all_put, hx, flat_put K.each hx (by rw [K.len]; exact hi)]; rfl
  have hfl := K.flat
  have hlt : (i + 1) * d.bytes ≤ d.blocks * d.bytes := Nat.mul_le_mul_right _ hi
  rw [Nat.add_mul, Nat.one_mul] at hlt
  have hfit : Hid (i * d.bytes + min x.length d.bytes ≤ (eByte.all d.img.flatten).length) := by
    show _ ≤ _; rw [eByte.all_len, hfl, hx]; show _ ≤ _ * 1; omega
  have hrd := Lib.hid hr
  obtain ⟨A, c, rfl, _, _, _⟩ := hr
  rw [hx] at hrd
  rw [hx]
  have ht := tick_eq d.writes
  unfold devB at *
  have c0 := S.cell 0 rfl 0 rfl
  have hb2 : min d.bytes d.bytes = d.bytes := Nat.min_self _
  clear hi hx hfl hlt K H
  unfold Dv.write at *
  dsimp only at *
  obtain ⟨blocks, bytes, img, reads, writes⟩ := d
  dsimp only at *
  generalize (img.set i x).flatten = img' at *
  generalize img.flatten = im at *
  generalize tick writes = tw at *
  generalize i * bytes = f at *
  generalize blocks * bytes = N at *
  go_enter Tryz.func23, Tryz.ntmps23
  go_wp2_with (go_at_call 58; refine ha.out.mono ?_)
  rintro e w' ⟨rfl, q, rfl⟩
  go_wp2_with (refine wpl_copy (E := eByte) (ys := x) rfl (S.drewN q) 1 rfl (hrd.out.drewN q) rfl _ _ _ _ rfl _ Tryz.underlying29 u8_size f bytes (N - f) rfl rfl ?_ ?_; (exact hfit.out))
  intro w2 S2
  replace S2 : St w _ w2 [_, (z.b, C 5 (eByte.all img'))] := hput.out ▸ S2
  have c3 := S2.cell 0 rfl 3 rfl
  go_wp2_with (refine wpl_set rfl _ _ _ rfl _ _ rfl _ rfl Tryz.sizeOf82 S2 0 _ _ rfl (by simp) rfl ?_)
  intro w3 S3
  go_wp2
  go_ret
  exact ⟨rfl, S3⟩
end
end Go.Proofs.YtnobknmhffaoeaaGreatDoor
namespace Go.Proofs.YtnobknmhffaoeaaGreatDoor
open Go.RowKit
def pv (p : Nat × Nat) : Value × Value := (.int .u32 p.1, .int .i64 p.2)
def MapIs (o : Obj) (M : List (Nat × Nat)) : Prop :=
  ∃ es clock, o = .map es clock ∧ es.toList.map (fun e => (e.key, e.val)) = M.map pv ∧ (∀ e ∈ es.toList, e.born < clock) ∧ (es.toList.map MapEntry.born).Nodup
/-- The place of a key, and its value. -/
def aFind (k : Nat) : List (Nat × Nat) → Nat → Option (Nat × Nat)
  | [], _ => none
  | (a, b) :: M, j => if a = k then some (j, b) else aFind k M (j + 1)
def aGet (M : List (Nat × Nat)) (k : Nat) : Option Nat := (aFind k M 0).map (·.2)
theorem findNow_spec (k : Nat) : ∀ (l : List MapEntry) (M : List (Nat × Nat)) (j : Nat), l.map (fun e => (e.key, e.val)) = M.map pv →
    Instr.findNow (.int .u32) (.int .u32 k) l j = some ((aFind k M j).map fun p => (p.1, .int .i64 p.2))
  | [], [], j, _ => rfl
  | [], _ :: _, j, h => by simp at h
  | _ :: _, [], j, h => by simp at h
  | e :: l, (a, b) :: M, j, h => by
    simp only [List.map_cons, List.cons.injEq, pv, Prod.mk.injEq] at h
    obtain ⟨⟨h1, h2⟩, h3⟩ := h
    have ih := findNow_spec k l M (j + 1) h3
    unfold Instr.findNow aFind
    rw [h1, h2]
    simp only [Instr.sameNow, if_true]
    by_cases hk : a = k
    · subst hk; simp
    · have h4 : ((k : Int) == (a : Int)) = false := by rw [beq_eq_false_iff_ne]; omega
      simp only [h4, if_neg hk, ih]
theorem aFind_some {k : Nat} : ∀ {M : List (Nat × Nat)} {j i b : Nat}, aFind k M j = some (i, b) → j ≤ i ∧ M[i - j]? = some (k, b)
  | [], j, i, b, h => by simp [aFind] at h
  | (a, c) :: M, j, i, b, h => by
    unfold aFind at h
    split at h
    · rename_i ha; subst ha
      simp only [Option.some.injEq, Prod.mk.injEq] at h
      obtain ⟨rfl, rfl⟩ := h
      simp
    · obtain ⟨h1, h2⟩ := aFind_some h
      refine ⟨by omega, ?_⟩
      rw [show i - j = (i - (j + 1)) + 1 by omega, List.getElem?_cons_succ]; exact h2
theorem aFind_none {k : Nat} : ∀ {M : List (Nat × Nat)} {j : Nat}, aFind k M j = none → ∀ p ∈ M, p.1 ≠ k
  | [], j, _ => by simp
  | (a, c) :: M, j, h => by
    unfold aFind at h
    split at h
    · cases h
    · rename_i ha
      intro p hp
      rcases List.mem_cons.1 hp with rfl | hp
      · exact ha
      · exact aFind_none h p hp
section
variable {P : Program} (w : World) (T K V : Nat) (r : Nat) (es : Array MapEntry) (clock : Nat) (M : List (Nat × Nat)) (k : Nat)
theorem run_checkKey_u32 (hK : P.underlying K = some (.int .u32)) (b : Bool) (v : Value) (w : World) : (Instr.checkKey b 10000 K v).run P w = .ok () w := by
  unfold Instr.checkKey
  simp only [Sem.run_bind, run_underlying hK, Result.andThen_ok, Sem.run_pure]
theorem run_findKey_u32 (hK : P.underlying K = some (.int .u32)) (hM : es.toList.map (fun e => (e.key, e.val)) = M.map pv) :
    (Instr.findKey K (.int .u32 k) es.toList).run P w = .ok ((aFind k M 0).map fun p => (p.1, .int .i64 p.2)) w := by
  unfold Instr.findKey
  simp only [Sem.run_bind, run_underlying hK, Result.andThen_ok, findNow_spec k es.toList M 0 hM, Sem.run_pure]
end
section
variable {P : Program} {w0 w : World} {F : Nat → Prop} {L : Blocks} {ops : Array Oper} {rest : List Oper} {o : Oper} {a : Act} {Q : Exit → Act → World → Prop}
theorem St.obj (S : St w0 F w L) (i : Nat) {g : Nat} {o : Obj} (hi : L[i]? = some (g, o)) : w.heap[g]? = some o := S.hc.at_ i hi
theorem run_getObj_map {r : Nat} {es : Array MapEntry} {clock : Nat} (h : w.heap[r]? = some (.map es clock)) : (getObj r).run P w = .ok (.map es clock) w := by
  simp [getObj, Sem.run, h]
/-- A look-up that tells whether there is one. -/
theorem wpl_lookup_ok (S : St w0 F w L) (i : Nat) {r : Nat} {ob : Obj} (hi : L[i]? = some (r, ob)) {M : List (Nat × Nat)} (hM : MapIs ob M) (hgd : o.guard = none) (T K V : Nat) (m x : Operand) (ho : o.op = .lookup T m x true)
    (hT : P.underlying T = some (.map K V)) (hK : P.underlying K = some (.int .u32)) (hz : ∀ w, (zeroValue V).run P w = .ok (.int .i64 0) w) (k : Nat) (hm : a.eval m = .map (some r)) (hx : a.eval x = .int .u32 k)
    (hk : wpList P ops Q rest (a.put o.dst (.tuple #[.int .i64 ((aGet M k).getD 0 : Nat), .bool (aGet M k).isSome])) w) : wpList P ops Q (o :: rest) a w := by
  obtain ⟨es, clock, rfl, h1, h2, h3⟩ := hM
  refine wpList_plain hgd fun K' hK' => ?_
  have hr : (Instr.lookup T (.map (some r)) (.int .u32 k) true).run P w = .ok (.tuple #[.int .i64 ((aGet M k).getD 0 : Nat), .bool (aGet M k).isSome]) w := by
    unfold Instr.lookup
    simp only [Sem.run_bind, run_underlying hT, Result.andThen_ok, run_getObj_map (S.obj i hi), Sem.run_pure, run_checkKey_u32 K hK, run_findKey_u32 w K es M k hK h1]
    unfold aGet
    cases aFind k M 0 with
    | none => simp [hz]
    | some p => simp
  unfold Oper.wp execOp
  simp only [ho, hm, hx, Sem.run_bind, hr, Result.andThen_ok, Sem.run_pure, Oper.upon_value]
  exact hK' _ _ hk
/-- A look-up of a key that is there. -/
theorem wpl_lookup (S : St w0 F w L) (i : Nat) {r : Nat} {ob : Obj} (hi : L[i]? = some (r, ob)) {M : List (Nat × Nat)} (hM : MapIs ob M) (hgd : o.guard = none) (T K V : Nat) (m x : Operand) (ho : o.op = .lookup T m x false)
    (hT : P.underlying T = some (.map K V)) (hK : P.underlying K = some (.int .u32)) (hz : ∀ w, (zeroValue V).run P w = .ok (.int .i64 0) w) (k : Nat) (hm : a.eval m = .map (some r)) (hx : a.eval x = .int .u32 k)
    (hk : wpList P ops Q rest (a.put o.dst (.int .i64 ((aGet M k).getD 0 : Nat))) w) : wpList P ops Q (o :: rest) a w := by
  obtain ⟨es, clock, rfl, h1, h2, h3⟩ := hM
  refine wpList_plain hgd fun K' hK' => ?_
  have hr : (Instr.lookup T (.map (some r)) (.int .u32 k) false).run P w = .ok (.int .i64 ((aGet M k).getD 0 : Nat)) w := by
    unfold Instr.lookup
    simp only [Sem.run_bind, run_underlying hT, Result.andThen_ok, run_getObj_map (S.obj i hi), Sem.run_pure, run_checkKey_u32 K hK, run_findKey_u32 w K es M k hK h1]
    unfold aGet
    cases aFind k M 0 with
    | none => simp [hz]
    | some p => simp
  unfold Oper.wp execOp
  simp only [ho, hm, hx, Sem.run_bind, hr, Result.andThen_ok, Sem.run_pure, Oper.upon_value]
  exact hK' _ _ hk
/-- The list behind a store. -/
def aPut (M : List (Nat × Nat)) (k v : Nat) : List (Nat × Nat) := match aFind k M 0 with
  | some (i, _) => M.set i (k, v)
  | none => M ++ [(k, v)]
def aDel (M : List (Nat × Nat)) (k : Nat) : List (Nat × Nat) := match aFind k M 0 with
  | some (i, _) => M.eraseIdx i
  | none => M
theorem turn_setObj {r : Nat} {o o' : Obj} (h : w.heap[r]? = some o) : Turn w { w with heap := w.heap.setIfInBounds r o' } r o' := by
  have hlt := blk_lt' h
  refine ⟨rfl, rfl, rfl, by simp, by simp [hlt], fun k hk => ?_⟩
  rw [Array.getElem?_setIfInBounds_ne (fun e => hk e.symm)]
theorem wpl_mapUpdate (S : St w0 F w L) (i : Nat) {r : Nat} {ob : Obj} (hi : L[i]? = some (r, ob)) {M : List (Nat × Nat)} (hM : MapIs ob M) (hgd : o.guard = none) (T K V : Nat) (m x y : Operand) (ho : o.op = .mapUpdate T m x y)
    (hT : P.underlying T = some (.map K V)) (hK : P.underlying K = some (.int .u32)) (k v : Nat) (hm : a.eval m = .map (some r)) (hx : a.eval x = .int .u32 k) (hy : a.eval y = .int .i64 v)
    (hk : ∀ ob' w', MapIs ob' (aPut M k v) → St w0 F w' (L.set i (r, ob')) → wpList P ops Q rest (a.put o.dst undef) w') : wpList P ops Q (o :: rest) a w := by
  obtain ⟨es, clock, rfl, h1, h2, h3⟩ := hM
  refine wpList_plain hgd fun K' hK' => ?_
  have hb := S.obj i hi
  have hget := run_getObj_map (P := P) hb
  have hfind := run_findKey_u32 (P := P) w K es M k hK h1
  have hlen : es.size = M.length := by have := congrArg List.length h1; simpa using this
  unfold Oper.wp execOp
  simp only [ho, hm, hx, hy, Sem.run_bind]
  unfold Instr.mapUpdate
  simp only [Sem.run_bind, run_underlying hT, Result.andThen_ok, hget, Sem.run_pure, run_checkKey_u32 K hK, hfind]
  cases hf : aFind k M 0 with
  | none =>
    have hne := aFind_none hf
    have hset : (setObj r (.map (es.push { key := .int .u32 k, val := .int .i64 v, born := clock }) (clock + 1))).run P w = .ok () { w with heap := w.heap.setIfInBounds r (.map (es.push { key := .int .u32 k, val := .int .i64 v, born := clock }) (clock + 1)) } := by
      simp [setObj, Sem.run, hb]
    simp only [Option.map_none, hset, Result.andThen_ok, Oper.upon_skip]
    refine hK' _ _ (hk _ _ ?_ (S.turn i hi (turn_setObj hb)))
    refine ⟨_, _, rfl, ?_, ?_, ?_⟩
    · unfold aPut; rw [hf]; simp [h1, pv]
    · intro e he
      simp only [Array.toList_push, List.mem_append, List.mem_singleton] at he
      rcases he with he | rfl
      · have := h2 e he; omega
      · simp
    · rw [Array.toList_push, List.map_append]
      refine List.nodup_append.2 ⟨h3, by simp, ?_⟩
      intro x hx y hy e
      simp at hy
      obtain ⟨e', he', rfl⟩ := List.mem_map.1 hx
      have := h2 e' he'
      omega
  | some p =>
    obtain ⟨j, b⟩ := p
    obtain ⟨_, hj⟩ := aFind_some hf
    simp only [Nat.sub_zero] at hj
    have hjl : j < M.length := (List.getElem?_eq_some_iff.1 hj).1
    have hjs : j < es.size := by omega
    have hkey : (es[j]'hjs).key = .int .u32 k := by
      have h4 := congrArg (fun l => l[j]?) h1
      simp only [List.getElem?_map, hj] at h4
      rw [List.getElem?_eq_getElem (by simpa using hjs)] at h4
      simp [pv] at h4
      exact h4.1
    have hstay : (Instr.keyThatStays (((es[j]?).map (·.key)).getD (.int .u32 k)) (.int .u32 k)).run P w = .ok (.int .u32 k) w := by
      rw [Array.getElem?_eq_getElem hjs]
      simp only [Option.map_some, Option.getD_some, hkey, Instr.keyThatStays, Instr.sameBits]
      simp
    have hset : (setObj r (.map (es.modify j fun e => { e with key := .int .u32 k, val := .int .i64 v }) clock)).run P w = .ok () { w with heap := w.heap.setIfInBounds r (.map (es.modify j fun e => { e with key := .int .u32 k, val := .int .i64 v }) clock) } := by
      simp [setObj, Sem.run, hb]
    simp only [Option.map_some, Sem.run_bind, hstay, Result.andThen_ok, hset, Oper.upon_skip]
    refine hK' _ _ (hk _ _ ?_ (S.turn i hi (turn_setObj hb)))
    have hmod : (es.modify j fun e => { e with key := .int .u32 k, val := .int .i64 v }).toList = es.toList.set j { es[j] with key := .int .u32 k, val := .int .i64 v } := by
      apply List.ext_getElem?
      intro q
      rw [Array.getElem?_toList, Array.getElem?_modify, List.getElem?_set]
      by_cases hq : j = q
      · subst hq; simp [hjs]
      · simp [hq]
    refine ⟨_, _, rfl, ?_, ?_, ?_⟩
    · rw [hmod, List.map_set, h1]
      unfold aPut; rw [hf]
      simp [List.map_set, pv]
    · intro e he
      rw [hmod] at he
      rcases List.mem_or_eq_of_mem_set he with he | rfl
      · exact h2 e he
      · exact h2 es[j] (by simp)
    · rw [hmod, List.map_set]
      have : (es.toList.map MapEntry.born).set j es[j].born = es.toList.map MapEntry.born := by
        apply List.ext_getElem?
        intro q
        rw [List.getElem?_set]
        by_cases hq : j = q
        · subst hq; simp [hjs]
        · simp [hq]
      show ((es.toList.map MapEntry.born).set j es[j].born).Nodup
      rw [this]; exact h3
theorem map_eraseIdx' {α β : Type} (f : α → β) : ∀ (l : List α) (i : Nat), (l.eraseIdx i).map f = (l.map f).eraseIdx i
  | [], i => by simp
  | a :: l, 0 => by simp
  | a :: l, i + 1 => by simp [map_eraseIdx' f l i]
theorem wpl_delete (S : St w0 F w L) (i : Nat) {r : Nat} {ob : Obj} (hi : L[i]? = some (r, ob)) {M : List (Nat × Nat)} (hM : MapIs ob M) (hgd : o.guard = none) (T K V : Nat) (m x : Operand) (ho : o.op = .call { callee := .builtin .delete, args := #[m, x], argTypes := #[T, K] })
    (hT : P.underlying T = some (.map K V)) (hK : P.underlying K = some (.int .u32)) (k : Nat) (hm : a.eval m = .map (some r)) (hx : a.eval x = .int .u32 k)
    (hk : ∀ ob' w', MapIs ob' (aDel M k) → St w0 F w' (L.set i (r, ob')) → wpList P ops Q rest (a.put o.dst (.tuple #[])) w') : wpList P ops Q (o :: rest) a w := by
  obtain ⟨es, clock, rfl, h1, h2, h3⟩ := hM
  refine wpList_plain hgd fun K' hK' => ?_
  have hb := S.obj i hi
  have hget := run_getObj_map (P := P) hb
  have hfind := run_findKey_u32 (P := P) w K es M k hK h1
  have hlen : es.size = M.length := by have := congrArg List.length h1; simpa using this
  unfold Oper.wp execOp
  simp only [ho, resolve, invoke, builtin, Sem.run_bind, Sem.run_pure, Result.andThen_ok, List.map_toArray, List.map_cons, List.map_nil, hm, hx]
  have hrun : ∃ ob' w', (Builtin.delete_ #[T, K] o.type #[.map (some r), .int .u32 k]).run P w = .ok (.tuple #[]) w' ∧ MapIs ob' (aDel M k) ∧ Turn w w' r ob' := by
    unfold Builtin.delete_
    simp only [List.getElem?_toArray, List.getElem?_cons_zero, List.getElem?_cons_succ, Sem.run_bind, run_underlying hT, Result.andThen_ok, hget, Sem.run_pure, run_checkKey_u32 K hK, hfind]
    cases hf : aFind k M 0 with
    | none =>
      have hset : (setObj r (.map es clock)).run P w = .ok () { w with heap := w.heap.setIfInBounds r (.map es clock) } := by simp [setObj, Sem.run, hb]
      refine ⟨_, _, by simp only [Option.map_none, Sem.run_bind, hset, Result.andThen_ok, Sem.run_pure], ⟨es, clock, rfl, ?_, h2, h3⟩, turn_setObj hb⟩
      unfold aDel; rw [hf]; exact h1
    | some p =>
      obtain ⟨j, b⟩ := p
      obtain ⟨_, hj⟩ := aFind_some hf
      simp only [Nat.sub_zero] at hj
      have hjl : j < M.length := (List.getElem?_eq_some_iff.1 hj).1
      have hjs : j < es.size := by omega
      have her : (es.eraseIdxIfInBounds j).toList = es.toList.eraseIdx j := by
        rw [Array.eraseIdxIfInBounds, dif_pos hjs, Array.toList_eraseIdx]
      have hset : (setObj r (.map (es.eraseIdxIfInBounds j) clock)).run P w = .ok () { w with heap := w.heap.setIfInBounds r (.map (es.eraseIdxIfInBounds j) clock) } := by simp [setObj, Sem.run, hb]
      refine ⟨.map (es.eraseIdxIfInBounds j) clock, _, by simp only [Option.map_some, Sem.run_bind, hset, Result.andThen_ok, Sem.run_pure], ⟨_, _, rfl, ?_, ?_, ?_⟩, turn_setObj hb⟩
      · rw [her, map_eraseIdx', h1]
        unfold aDel; rw [hf]
        simp [map_eraseIdx']
      · intro e he
        rw [her] at he
        exact h2 e (List.mem_of_mem_eraseIdx he)
      · rw [her, map_eraseIdx']
        exact (List.eraseIdx_sublist _ _).nodup h3
  obtain ⟨ob', w', hr, hM', hT'⟩ := hrun
  simp only [hr, Result.andThen_ok, Sem.run_pure, Oper.upon_value]
  exact hK' _ _ (hk ob' w' hM' (S.turn i hi hT'))
end
end Go.Proofs.YtnobknmhffaoeaaGreatDoor
namespace Go.Proofs.YtnobknmhffaoeaaGreatDoor
structure Link where
  ahead : Nat
  behind : Nat
  isin : Bool
deriving Inhabited
def bh (l : List Link) (i : Nat) : Nat := (l.getD i default).behind
def ah (l : List Link) (i : Nat) : Nat := (l.getD i default).ahead
def inn (l : List Link) (i : Nat) : Bool := (l.getD i default).isin
def cput1 (l : List Link) (i a nx : Nat) : List Link := l.set i ⟨a, nx, true⟩
def cput2 (l : List Link) (i a nx : Nat) : List Link := (cput1 l i a nx).set a { (cput1 l i a nx).getD a default with behind := i }
def cput (l : List Link) (i a nx : Nat) : List Link := (cput2 l i a nx).set nx { (cput2 l i a nx).getD nx default with ahead := i }
def cout1 (l : List Link) (a b : Nat) : List Link := l.set a { l.getD a default with behind := b }
def cout2 (l : List Link) (a b : Nat) : List Link := (cout1 l a b).set b { (cout1 l a b).getD b default with ahead := a }
def cout (l : List Link) (i a b : Nat) : List Link := (cout2 l a b).set i ⟨0, 0, false⟩

def Path (f g : Nat → Nat) : Nat → List Nat → Nat → Prop
  | a, [], b => f a = b ∧ g b = a
  | a, x :: r, b => f a = x ∧ g x = a ∧ Path f g x r b
structure Ring (N : Nat) (l : List Link) (row : List Nat) : Prop where
  len : l.length = N + 1
  nodup : (N :: row).Nodup
  lt : ∀ i ∈ row, i < N
  path : Path (bh l) (ah l) N row N
  ins : ∀ i, i < N → (inn l i = true ↔ i ∈ row)

theorem Path.congr {f g f' g' : Nat → Nat} : ∀ (r : List Nat) (a b : Nat), Path f g a r b → (∀ k ∈ a :: r, f' k = f k) → (∀ k ∈ r ++ [b], g' k = g k) → Path f' g' a r b
  | [], a, b, h, hf, hg => ⟨(hf a (by simp)).trans h.1, (hg b (by simp)).trans h.2⟩
  | x :: r, a, b, h, hf, hg => ⟨(hf a (by simp)).trans h.1, (hg x (by simp)).trans h.2.1, Path.congr r x b h.2.2 (fun k hk => hf k (List.mem_cons_of_mem _ hk)) (fun k hk => hg k (by simp at hk ⊢; exact .inr hk))⟩
theorem Path.split {f g : Nat → Nat} : ∀ (r1 r2 : List Nat) (a x b : Nat), Path f g a (r1 ++ x :: r2) b ↔ Path f g a r1 x ∧ Path f g x r2 b
  | [], r2, a, x, b => by simp [Path, and_assoc]
  | y :: r1, r2, a, x, b => by simp [Path, Path.split r1 r2 y x b, and_assoc]
theorem Path.last {f g : Nat → Nat} : ∀ (r : List Nat) (a x : Nat), Path f g a r x → f ((a :: r).getLast (by simp)) = x ∧ g x = (a :: r).getLast (by simp)
  | [], a, x, h => h
  | y :: r, a, x, h => by
    have := Path.last r y x h.2.2
    rw [List.getLast_cons (by simp)]; exact this
theorem Path.first {f g : Nat → Nat} : ∀ (r : List Nat) (a x : Nat), Path f g a r x → f a = (r ++ [x]).head (by simp) ∧ g ((r ++ [x]).head (by simp)) = a
  | [], a, x, h => h
  | y :: r, a, x, h => ⟨h.1, h.2.1⟩
/-- The last step of a path leads elsewhere. -/
theorem Path.relink {f g f' g' : Nat → Nat} (y : Nat) : ∀ (r : List Nat) (a x : Nat), Path f g a r x → (a :: r).Nodup → y ∉ r →
    (∀ k, k ≠ (a :: r).getLast (by simp) → k ∈ a :: r → f' k = f k) → f' ((a :: r).getLast (by simp)) = y → (∀ k, k ≠ y → k ∈ r → g' k = g k) → g' y = (a :: r).getLast (by simp) → Path f' g' a r y
  | [], a, x, _, _, _, _, h1, _, h2 => ⟨h1, h2⟩
  | z :: r, a, x, h, hn, hy, hf, h1, hg, h2 => by
    have hl : (a :: z :: r).getLast (by simp) = (z :: r).getLast (by simp) := List.getLast_cons (by simp)
    rw [hl] at h1 h2
    have hne : a ≠ (z :: r).getLast (by simp) := fun e => (List.nodup_cons.1 hn).1 (e ▸ List.getLast_mem _)
    refine ⟨(hf a (by rw [hl]; exact hne) (by simp)).trans h.1, (hg z (fun e => hy (e ▸ by simp)) (by simp)).trans h.2.1, ?_⟩
    refine Path.relink y r z x h.2.2 (List.nodup_cons.1 hn).2 (fun hm => hy (List.mem_cons_of_mem _ hm)) (fun k hk hm => hf k (by rw [hl]; exact hk) (List.mem_cons_of_mem _ hm)) h1 (fun k hk hm => hg k hk (List.mem_cons_of_mem _ hm)) h2

theorem getD_set {l : List Link} {i j : Nat} {x : Link} (hi : i < l.length) : (l.set i x).getD j default = if j = i then x else l.getD j default := by
  simp only [List.getD_eq_getElem?_getD]
  by_cases h : j = i
  · subst h; rw [if_pos rfl, List.getElem?_set_self hi]; rfl
  · rw [if_neg h, List.getElem?_set_ne (fun e => h e.symm)]
theorem cput_at (l : List Link) (i a nx k : Nat) (hi : i < l.length) (ha : a < l.length) (hn : nx < l.length) (h1 : i ≠ a) (h2 : i ≠ nx) :
    (cput l i a nx).getD k default = ⟨if k = nx then i else if k = i then a else ah l k, if k = a then i else if k = i then nx else bh l k, if k = i then true else inn l k⟩ := by
  unfold cput cput2 cput1
  have g1 : ∀ j, ((l.set i ⟨a, nx, true⟩).getD j default) = if j = i then ⟨a, nx, true⟩ else l.getD j default := fun j => getD_set hi
  have g2 : ∀ x j, (((l.set i ⟨a, nx, true⟩).set a x).getD j default) = if j = a then x else (l.set i ⟨a, nx, true⟩).getD j default := fun x j => getD_set (by simpa)
  rw [getD_set (by simpa)]
  simp only [g2, g1, bh, ah, inn]
  by_cases e1 : k = nx <;> by_cases e2 : k = i <;> by_cases e3 : k = a <;> (try subst e1) <;> (try subst e2) <;> (try subst e3) <;> simp_all
  all_goals (by_cases e4 : nx = a <;> simp_all)
theorem cout_at (l : List Link) (i a b k : Nat) (hi : i < l.length) (ha : a < l.length) (hb : b < l.length) (h1 : i ≠ a) (h2 : i ≠ b) :
    (cout l i a b).getD k default = ⟨if k = i then 0 else if k = b then a else ah l k, if k = i then 0 else if k = a then b else bh l k, if k = i then false else inn l k⟩ := by
  unfold cout cout2 cout1
  have g1 : ∀ x j, ((l.set a x).getD j default) = if j = a then x else l.getD j default := fun x j => getD_set ha
  have g2 : ∀ x y j, (((l.set a x).set b y).getD j default) = if j = b then y else (l.set a x).getD j default := fun x y j => getD_set (by simpa)
  rw [getD_set (by simpa)]
  simp only [g2, g1, bh, ah, inn]
  by_cases e1 : k = b <;> by_cases e2 : k = i <;> by_cases e3 : k = a <;> simp_all
  all_goals (by_cases e4 : b = a <;> simp_all)

theorem Ring.first {N : Nat} {l : List Link} {row : List Nat} (R : Ring N l row) : bh l N = (row ++ [N]).head (by simp) := (Path.first row N N R.path).1
theorem Ring.last {N : Nat} {l : List Link} {row : List Nat} (R : Ring N l row) : ah l N = (N :: row).getLast (by simp) := (Path.last row N N R.path).2
theorem Ring.last_mem {N : Nat} {l : List Link} {row : List Nat} (R : Ring N l row) (h : row ≠ []) : ah l N = row.getLast h := by
  rw [R.last, List.getLast_cons h]
theorem Ring.put {N : Nat} {l : List Link} {row : List Nat} (R : Ring N l row) (i : Nat) (hi : i < N) (hn : i ∉ row) : Ring N (cput l i N (bh l N)) (i :: row) := by
  have hN : N ∉ row := (List.nodup_cons.1 R.nodup).1
  have hnx : bh l N = N ∨ bh l N ∈ row := by
    rw [R.first]
    have := List.head_mem (l := row ++ [N]) (by simp)
    rcases List.mem_append.1 this with h | h
    · exact .inr h
    · exact .inl (by simpa using h)
  have hnl : bh l N < l.length := by
    rw [R.len]
    rcases hnx with h | h
    · omega
    · have := R.lt _ h; omega
  have hne : i ≠ bh l N := fun e => by
    rcases hnx with h | h
    · omega
    · exact hn (e ▸ h)
  have hat := fun k => cput_at l i N (bh l N) k (by rw [R.len]; omega) (by rw [R.len]; omega) hnl (by omega) hne
  have hA : ∀ k, ah (cput l i N (bh l N)) k = if k = bh l N then i else if k = i then N else ah l k := fun k => congrArg Link.ahead (hat k)
  have hB : ∀ k, bh (cput l i N (bh l N)) k = if k = N then i else if k = i then bh l N else bh l k := fun k => congrArg Link.behind (hat k)
  have hI : ∀ k, inn (cput l i N (bh l N)) k = if k = i then true else inn l k := fun k => congrArg Link.isin (hat k)
  refine ⟨by simp [cput, cput2, cput1, R.len], ?_, ?_, ?_, ?_⟩
  · rw [List.nodup_cons, List.nodup_cons]
    refine ⟨?_, hn, (List.nodup_cons.1 R.nodup).2⟩
    intro h
    rcases List.mem_cons.1 h with h | h
    · omega
    · exact hN h
  · intro k hk
    rcases List.mem_cons.1 hk with rfl | hk
    · exact hi
    · exact R.lt k hk
  · refine ⟨by rw [hB, if_pos rfl], by rw [hA, if_neg hne, if_pos rfl], ?_⟩
    have hp := R.path
    revert hp
    have hF := R.first
    cases row with
    | nil =>
      intro hp
      have e : bh l N = N := by simpa using hF
      refine ⟨?_, ?_⟩
      · rw [hB, if_neg (by omega), if_pos rfl]; exact e
      · rw [hA, if_pos e.symm]
    | cons x r =>
      intro hp
      have e : bh l N = x := by simpa using hF
      have hx : x < N := R.lt x (by simp)
      refine ⟨?_, ?_, ?_⟩
      · rw [hB, if_neg (by omega), if_pos rfl]; exact e
      · rw [hA, if_pos e.symm]
      · refine Path.congr r x N hp.2.2 (fun k hk => ?_) (fun k hk => ?_)
        · have : k ≠ i := fun e => hn (e ▸ hk)
          have : k ≠ N := fun e => hN (e ▸ hk)
          rw [hB]; simp [*]
        · have h1 : k ≠ x := by
            have hnd := (List.nodup_cons.1 (List.nodup_cons.1 R.nodup).2).1
            rcases List.mem_append.1 hk with h | h
            · exact fun e => hnd (e ▸ h)
            · have : k = N := by simpa using h
              omega
          have h2 : k ≠ i := by
            rcases List.mem_append.1 hk with h | h
            · exact fun e => hn (e ▸ List.mem_cons_of_mem _ h)
            · have : k = N := by simpa using h
              omega
          rw [hA]; simp [e, h1, h2]
  · intro k hk
    rw [hI]
    by_cases h : k = i
    · simp [h]
    · have hR := R.ins k hk
      simp [h, hR]
theorem Ring.out {N : Nat} {l : List Link} {row : List Nat} (R : Ring N l row) (i : Nat) (hi : i ∈ row) : Ring N (cout l i (ah l i) (bh l i)) (row.erase i) ∧ ah l i < l.length ∧ bh l i < l.length := by
  obtain ⟨r1, r2, rfl⟩ := List.append_of_mem hi
  have hnd := R.nodup
  have hiN := R.lt i hi
  have hN : N ∉ r1 ++ i :: r2 := (List.nodup_cons.1 hnd).1
  have hnr := (List.nodup_cons.1 hnd).2
  have hi1 : i ∉ r1 := fun h => by
    have := (List.nodup_append.1 hnr).2.2 i h i (by simp); exact this rfl
  have hi2 : i ∉ r2 := (List.nodup_cons.1 (List.nodup_append.1 hnr).2.1).1
  have herase : (r1 ++ i :: r2).erase i = r1 ++ r2 := by
    rw [List.erase_append_right _ hi1, List.erase_cons_head]
  rw [herase]
  obtain ⟨p1, p2⟩ := (Path.split r1 r2 N i N).1 R.path
  have hl := Path.last r1 N i p1
  have hf := Path.first r2 i N p2
  have hln : ∀ k ∈ N :: (r1 ++ i :: r2), k < l.length := fun k hk => by
    rw [R.len]
    rcases List.mem_cons.1 hk with rfl | hk
    · omega
    · have := R.lt k hk; omega
  have ha : ah l i ∈ N :: r1 := hl.2 ▸ List.getLast_mem _
  have hb : bh l i ∈ r2 ++ [N] := hf.1 ▸ List.head_mem _
  have hal : ah l i < l.length := hln _ (by
    rcases List.mem_cons.1 ha with h | h
    · simp [h]
    · simp [h])
  have hbl : bh l i < l.length := hln _ (by
    rcases List.mem_append.1 hb with h | h
    · simp [h]
    · simp at h; simp [h])
  refine ⟨?_, hal, hbl⟩
  have h1 : i ≠ ah l i := fun e => by
    rw [← e] at ha
    rcases List.mem_cons.1 ha with h | h
    · omega
    · exact hi1 h
  have h2 : i ≠ bh l i := fun e => by
    rw [← e] at hb
    rcases List.mem_append.1 hb with h | h
    · exact hi2 h
    · simp at h; omega
  have hat := fun k => cout_at l i (ah l i) (bh l i) k (hln i (by simp)) hal hbl h1 h2
  have hA : ∀ k, ah (cout l i (ah l i) (bh l i)) k = if k = i then 0 else if k = bh l i then ah l i else ah l k := fun k => congrArg Link.ahead (hat k)
  have hB : ∀ k, bh (cout l i (ah l i) (bh l i)) k = if k = i then 0 else if k = ah l i then bh l i else bh l k := fun k => congrArg Link.behind (hat k)
  have hI : ∀ k, inn (cout l i (ah l i) (bh l i)) k = if k = i then false else inn l k := fun k => congrArg Link.isin (hat k)
  have hsub : (r1 ++ r2).Sublist (r1 ++ i :: r2) := List.Sublist.append_left (List.sublist_cons_self _ _) _
  have hdis : ∀ k, k ∈ r1 → k ∈ r2 → False := fun k k1 k2 => (List.nodup_append.1 hnr).2.2 k k1 k (by simp [k2]) rfl
  have hN1 : N ∉ r1 := fun h => hN (by simp [h])
  have hN2 : N ∉ r2 := fun h => hN (by simp [h])
  have hnd1 : (N :: r1).Nodup := List.nodup_cons.2 ⟨hN1, (List.nodup_append.1 hnr).1⟩
  have hnd2 : r2.Nodup := (List.nodup_cons.1 (List.nodup_append.1 hnr).2.1).2
  have hb1 : bh l i ∉ r1 := fun h => by
    rcases List.mem_append.1 hb with h' | h'
    · exact hdis _ h h'
    · simp at h'; rw [h'] at h; exact hN1 h
  -- the front part leads to what was behind i
  have q1 : Path (bh (cout l i (ah l i) (bh l i))) (ah (cout l i (ah l i) (bh l i))) N r1 (bh l i) := by
    refine Path.relink (bh l i) r1 N i p1 hnd1 hb1 (fun k hk hm => ?_) ?_ (fun k hk hm => ?_) ?_
    · rw [hB]
      have : k ≠ i := fun e => by
        rcases List.mem_cons.1 hm with h | h
        · omega
        · exact hi1 (e ▸ h)
      rw [← hl.2] at hk
      simp [this, hk]
    · rw [hB, ← hl.2]; simp [Ne.symm h1]
    · rw [hA]
      have : k ≠ i := fun e => hi1 (e ▸ hm)
      simp [this, hk]
    · rw [hA, ← hl.2]; simp [Ne.symm h2]
  refine ⟨by simp [cout, cout2, cout1, R.len], ?_, fun k hk => R.lt k (hsub.subset hk), ?_, ?_⟩
  · exact List.nodup_cons.2 ⟨fun h => hN (hsub.subset h), hsub.nodup hnr⟩
  · cases r2 with
    | nil =>
      have e : bh l i = N := by simpa using hf.1
      rw [e] at q1
      simpa using (e ▸ q1)
    | cons y t =>
      have e : bh l i = y := by simpa using hf.1
      rw [Path.split]
      refine ⟨e ▸ (e ▸ q1), ?_⟩
      refine Path.congr t y N p2.2.2 (fun k hk => ?_) (fun k hk => ?_)
      · rw [hB]
        have k1 : k ≠ i := fun e => hi2 (e ▸ hk)
        have k2 : k ≠ ah l i := fun e => by
          rcases List.mem_cons.1 ha with h | h
          · rw [h] at e; exact hN2 (e ▸ hk)
          · exact hdis k (e ▸ h) hk
        simp [k1, k2]
      · rw [hA]
        have k1 : k ≠ i := by
          rcases List.mem_append.1 hk with h | h
          · exact fun e => hi2 (e ▸ List.mem_cons_of_mem _ h)
          · simp at h; omega
        have k2 : k ≠ bh l i := by
          rw [e]
          rcases List.mem_append.1 hk with h | h
          · exact fun e => (List.nodup_cons.1 hnd2).1 (e ▸ h)
          · simp at h; intro e'; apply hN2; rw [← h, e']; simp
        simp [k1, k2]
  · intro k hk
    rw [hI]
    have hR := R.ins k hk
    by_cases h : k = i
    · subst h; simp [hi1, hi2]
    · simp only [if_neg h]
      rw [hR]; simp [h]
theorem nodup_le : ∀ (N : Nat) (l : List Nat), l.Nodup → (∀ x ∈ l, x < N) → l.length ≤ N
  | 0, l, _, h => by
    cases l with
    | nil => simp
    | cons x r => exact absurd (h x (by simp)) (by omega)
  | N + 1, l, hn, h => by
    have h1 := nodup_le N (l.erase N) (hn.erase N) (fun x hx => by
      have h2 := h x (List.mem_of_mem_erase hx)
      have h3 : x ≠ N := fun e => hn.not_mem_erase (e ▸ hx)
      omega)
    have h4 := List.length_erase (a := N) (l := l)
    split at h4 <;> omega
theorem Ring.le {N : Nat} {l : List Link} {row : List Nat} (R : Ring N l row) : row.length ≤ N := nodup_le N row (List.nodup_cons.1 R.nodup).2 R.lt
end Go.Proofs.YtnobknmhffaoeaaGreatDoor
namespace Go.Proofs.YtnobknmhffaoeaaGreatDoor
open Go.RowKit

def encL (x : Link) : List Value := [.int .i64 x.ahead, .int .i64 x.behind, .bool x.isin]
theorem encL_len (x : Link) : (encL x).length = 3 := rfl
def chainB (g b : Nat) (l : List Link) (n : Nat) : Blocks :=
  [(g, C 153 [.slice (some ⟨b, 0, none⟩) l.length l.length, .int .i64 n]), (b, C 155 (l.flatMap encL))]
theorem getD_some {α : Type} [Inhabited α] (l : List α) (i : Nat) (h : i < l.length) : l[i]? = some (l.getD i default) := by simp [List.getD, List.getElem?_eq_getElem h]

set_option maxHeartbeats 400000 in
theorem chain_put (g b i at_ nx : Nat) (l : List Link) (n : Nat) (w : World) (H : HC w (chainB g b l n))
   (hi : i < l.length) (hat : at_ < l.length) (hnx : nx < l.length)
   (x : Link) (hx : l[at_]? = some x) (hxn : x.behind = nx) (hn2 : n ≤ 5000) (hl : l.length ≤ 5000) :
    Calls Tryz.prog 140 #[.pointer (some ⟨g, 0, none⟩), .int .i64 i, .int .i64 at_] w fun e w' => e = .returned (.tuple #[]) ∧
      St w (FP w (chainB g b l n)) w' (chainB g b (cput l i at_ nx) (n + 1)) := by
  have S := H.st
  unfold chainB at S
  have hl1 : (cput1 l i at_ nx).length = l.length := by simp [cput1]
  have hl2 : (cput2 l i at_ nx).length = l.length := by simp [cput2, hl1]
  have hl3 : (cput l i at_ nx).length = l.length := by simp [cput, hl2]
  have e1 := fm_put encL_len l i ⟨at_, nx, true⟩ hi
  have e2 := fm_set encL_len (cput1 l i at_ nx) at_ 1 _ { (cput1 l i at_ nx).getD at_ default with behind := i } (.int .i64 i) (getD_some _ _ (by omega)) (by omega) rfl
  have e3 := fm_set encL_len (cput2 l i at_ nx) nx 0 _ { (cput2 l i at_ nx).getD nx default with ahead := i } (.int .i64 i) (getD_some _ _ (by omega)) (by omega) rfl
  have z1 : (List.flatMap encL (cput1 l i at_ nx)).length = l.length * 3 := by rw [fm_length encL_len, hl1]
  have z2 : (List.flatMap encL (cput2 l i at_ nx)).length = l.length * 3 := by rw [fm_length encL_len, hl2]
  have z0 : (List.flatMap encL l).length = l.length * 3 := by rw [fm_length encL_len]
  have c0 := S.cell 0 rfl 0 rfl
  have c2 := S.cell 1 rfl (at_ * 3 + 1) ((fm_get encL_len l at_ 1 x hx (by omega)).trans rfl)
  rw [hxn] at c2
  have E1 := Lib.hid e1; have E2 := Lib.hid e2; have E3 := Lib.hid e3; have Z0 := Lib.hid z0; have Z1 := Lib.hid z1; have Z2 := Lib.hid z2; have HL3 := Lib.hid hl3
  clear e1 e2 e3 z0 z1 z2 hl1 hl2 hl3 hx hxn
  go_enter Tryz.func140, Tryz.ntmps140
  go_wp2_with (refine wpl_store rfl _ _ _ rfl _ _ rfl _ rfl Tryz.sizeOf155 S 1 _ _ rfl (by rw [Z0.out]; show _ + 3 ≤ _; omega) (by simp [Act.eval, Value.cells, Value.oneCell']) ?_)
  intro w1 S1 _
  replace S1 : St _ _ w1 [_, (b, C _ (List.flatMap encL (cput1 l i at_ nx)))] := E1.out ▸ S1
  have c0 := S1.cell 0 rfl 0 rfl
  go_wp2_with (refine wpl_set rfl _ _ _ rfl _ _ rfl _ rfl Tryz.sizeOf3 S1 1 _ _ rfl (by rw [Z1.out]; omega) rfl ?_)
  intro w2 S2
  replace S2 : St _ _ w2 [_, (b, C _ (List.flatMap encL (cput2 l i at_ nx)))] := E2.out ▸ S2
  have c0 := S2.cell 0 rfl 0 rfl
  go_wp2_with (refine wpl_set rfl _ _ _ rfl _ _ rfl _ rfl Tryz.sizeOf3 S2 1 _ _ rfl (by rw [Z2.out]; omega) rfl ?_)
  intro w3 S3
  replace S3 : St _ _ w3 [_, (b, C _ (List.flatMap encL (cput l i at_ nx)))] := E3.out ▸ S3
  have c0 := S3.cell 0 rfl 0 rfl
  have c1 := S3.cell 0 rfl 1 rfl
  go_wp2_with (refine wpl_set rfl _ _ _ rfl _ _ rfl _ rfl Tryz.sizeOf3 S3 0 _ _ rfl (by simp) rfl ?_)
  intro w4 S4
  go_wp2
  go_end0
  refine ⟨rfl, ?_⟩
  unfold chainB
  rw [HL3.out]
  exact S4

set_option maxHeartbeats 400000 in
theorem chain_root (g b : Nat) (l : List Link) (n : Nat) (w : World) (H : HC w (chainB g b l n)) (hl : l.length ≤ 5000) (hl0 : 0 < l.length) :
    Calls Tryz.prog 141 #[.pointer (some ⟨g, 0, none⟩)] w fun e w' => e = .returned (.int .i64 (l.length - 1 : Nat)) ∧ w = w' := by
  have S := H.st
  unfold chainB at S
  have c0 := S.cell 0 rfl 0 rfl
  go_enter Tryz.func141, Tryz.ntmps141
  go_wp2
  go_ret
  exact ⟨ret_int (by omega), rfl⟩
set_option maxHeartbeats 400000 in
theorem chain_there (g b i : Nat) (l : List Link) (n : Nat) (w : World) (H : HC w (chainB g b l n)) (hl : l.length ≤ 5000) (hi : i + 1 < l.length) :
    Calls Tryz.prog 138 #[.pointer (some ⟨g, 0, none⟩), .int .i64 i] w fun e w' => e = .returned (.int .i64 0) ∧ w = w' := by
  have hr := chain_root g b l n w H hl (by omega)
  have S := H.st
  unfold chainB at S
  have c0 := S.cell 0 rfl 0 rfl
  have HR := Lib.hid hr
  clear hr
  go_enter Tryz.func138, Tryz.ntmps138
  go_wp2_with (go_at_call 141; refine HR.out.mono ?_; rintro e w' ⟨rfl, rfl⟩)
  go_ret
  exact ⟨rfl, rfl⟩

set_option maxRecDepth 100000 in
set_option maxHeartbeats 400000 in
theorem chain_out_not (g b i : Nat) (l : List Link) (n : Nat) (w : World) (H : HC w (chainB g b l n)) (hl : l.length ≤ 5000) (hi : i < l.length) (x : Link) (hx : l[i]? = some x) (hin : x.isin = false) :
    Calls Tryz.prog 139 #[.pointer (some ⟨g, 0, none⟩), .int .i64 i] w fun e w' => e = .returned (.tuple #[]) ∧ St w (FP w (chainB g b l n)) w' (chainB g b l n) := by
  have S := H.st
  unfold chainB at S
  have c0 := S.cell 0 rfl 0 rfl
  have c2 := S.cell 1 rfl (i * 3) ((fm_get0 encL_len l i x hx (by omega)).trans rfl)
  have c3 := S.cell 1 rfl (i * 3 + 1) ((fm_get encL_len l i 1 x hx (by omega)).trans rfl)
  have c4 := S.cell 1 rfl (i * 3 + 2) ((fm_get encL_len l i 2 x hx (by omega)).trans rfl)
  rw [hin] at c4
  go_enter Tryz.func139, Tryz.ntmps139
  go_wp2
  refine bodyPost_ret (results_none rfl _ _ _) rfl ?_
  exact ⟨rfl, (S.alloc _).right (A := [_])⟩

set_option maxRecDepth 100000 in
set_option maxHeartbeats 400000 in
theorem chain_out (g b i : Nat) (l : List Link) (n : Nat) (w : World) (H : HC w (chainB g b l n)) (hl : l.length ≤ 5000) (hi : i < l.length) (x : Link) (hx : l[i]? = some x) (hin : x.isin = true)
   (ha : x.ahead < l.length) (hb : x.behind < l.length) (hn : 0 < n) (hn2 : n ≤ 5000) :
    Calls Tryz.prog 139 #[.pointer (some ⟨g, 0, none⟩), .int .i64 i] w fun e w' => e = .returned (.tuple #[]) ∧
      St w (FP w (chainB g b l n)) w' (chainB g b (cout l i x.ahead x.behind) (n - 1)) := by
  have S := H.st
  unfold chainB at S
  have hl1 : (cout1 l x.ahead x.behind).length = l.length := by simp [cout1]
  have hl2 : (cout2 l x.ahead x.behind).length = l.length := by simp [cout2, hl1]
  have hl3 : (cout l i x.ahead x.behind).length = l.length := by simp [cout, hl2]
  have E1 := Lib.hid (fm_set encL_len l x.ahead 1 _ { l.getD x.ahead default with behind := x.behind } (.int .i64 x.behind) (getD_some _ _ ha) (by omega) rfl)
  have E2 := Lib.hid (fm_set encL_len (cout1 l x.ahead x.behind) x.behind 0 _ { (cout1 l x.ahead x.behind).getD x.behind default with ahead := x.ahead } (.int .i64 x.ahead) (getD_some _ _ (by omega)) (by omega) rfl)
  have E3 := Lib.hid (fm_put encL_len (cout2 l x.ahead x.behind) i ⟨0, 0, false⟩ (by omega))
  have Z0 := Lib.hid (fm_length encL_len l)
  have Z1 := Lib.hid ((fm_length encL_len (cout1 l x.ahead x.behind)).trans (by rw [hl1]))
  have Z2 := Lib.hid ((fm_length encL_len (cout2 l x.ahead x.behind)).trans (by rw [hl2]))
  have HL3 := Lib.hid hl3
  clear hl1 hl2 hl3
  have c0 := S.cell 0 rfl 0 rfl
  have c2 := S.cell 1 rfl (i * 3) ((fm_get0 encL_len l i x hx (by omega)).trans rfl)
  have c3 := S.cell 1 rfl (i * 3 + 1) ((fm_get encL_len l i 1 x hx (by omega)).trans rfl)
  have c4 := S.cell 1 rfl (i * 3 + 2) ((fm_get encL_len l i 2 x hx (by omega)).trans rfl)
  rw [hin] at c4
  have HX := Lib.hid hin
  clear hx hin
  go_enter Tryz.func139, Tryz.ntmps139
  go_wp2_with fail
  have S1 := S.alloc (C 155 (encL x))
  rw [show encL x = [.int .i64 x.ahead, .int .i64 x.behind, .bool true] by simp [encL, HX.out]] at S1
  have SZ : 0 = 0 := rfl
  generalize w.alloc (C 155 [.int .i64 x.ahead, .int .i64 x.behind, .bool true]) = w1 at S1 ⊢
  generalize w.heap.size = gx at S1 ⊢
  have d0 := S1.cell 1 rfl 0 rfl
  have d1 := S1.cell 0 rfl 0 rfl
  have d2 := S1.cell 0 rfl 1 rfl
  go_still_tail 10, (by kernel_rfl)
  refine wpl_set rfl _ _ _ rfl _ _ rfl _ rfl Tryz.sizeOf3 S1.drew 2 _ _ rfl (by rw [Z0.out]; omega) rfl ?_
  intro w2 S2
  replace S2 : St _ _ w2 [_, _, (b, C _ (List.flatMap encL (cout1 l x.ahead x.behind)))] := E1.out ▸ S2
  clear c0 c2 c3 c4 d0 d1 d2
  have d0 := S2.cell 1 rfl 0 rfl
  have d1 := S2.cell 0 rfl 0 rfl
  have d2 := S2.cell 0 rfl 1 rfl
  go_wp2_with fail
  go_still_tail 10, (by kernel_rfl)
  refine wpl_set rfl _ _ _ rfl _ _ rfl _ rfl Tryz.sizeOf3 S2.drew 2 _ _ rfl (by rw [Z1.out]; omega) rfl ?_
  intro w3 S3
  replace S3 : St _ _ w3 [_, _, (b, C _ (List.flatMap encL (cout2 l x.ahead x.behind)))] := E2.out ▸ S3
  clear d0 d1 d2
  have d0 := S3.cell 1 rfl 0 rfl
  go_wp2_with (refine wpl_store rfl _ _ _ rfl _ _ rfl _ rfl Tryz.sizeOf155 S3 2 _ _ rfl (by rw [Z2.out]; show _ + 3 ≤ _; omega) (by simp [Act.eval, Value.cells, Value.oneCell']) ?_)
  intro w4 S4 _
  replace S4 : St _ _ w4 [_, _, (b, C _ (List.flatMap encL (cout l i x.ahead x.behind)))] := E3.out ▸ S4
  clear d0
  have d0 := S4.cell 1 rfl 0 rfl
  have d1 := S4.cell 1 rfl 1 rfl
  go_wp2_with (refine wpl_set rfl _ _ _ rfl _ _ rfl _ rfl Tryz.sizeOf3 S4 1 _ _ rfl (by simp) rfl ?_)
  intro w5 S5
  go_wp2
  go_end0
  refine ⟨rfl, ?_⟩
  unfold chainB
  rw [HL3.out, show ((n - 1 : Nat) : Int) = (n : Int) - 1 by omega]
  exact S5.right (A := [_])

theorem Ring.get {N : Nat} {l : List Link} {row : List Nat} (R : Ring N l row) (i : Nat) (hi : i ≤ N) : l[i]? = some ⟨ah l i, bh l i, inn l i⟩ := by
  rw [getD_some l i (by rw [R.len]; omega)]; rfl
set_option maxHeartbeats 400000 in
theorem chain_out_any {N : Nat} {l : List Link} {row : List Nat} (R : Ring N l row) (g b i : Nat) (w : World) (H : HC w (chainB g b l row.length)) (hN : N ≤ 4096) (hi : i < N) :
    Calls Tryz.prog 139 #[.pointer (some ⟨g, 0, none⟩), .int .i64 i] w fun e w' => e = .returned (.tuple #[]) ∧
      ∃ l', Ring N l' (row.erase i) ∧ St w (FP w (chainB g b l row.length)) w' (chainB g b l' (row.erase i).length) := by
  have hx := R.get i (by omega)
  by_cases hin : i ∈ row
  · obtain ⟨R', ha, hb⟩ := R.out i hin
    have h0 : inn l i = true := (R.ins i hi).2 hin
    have hle := R.le
    have hpos : 0 < row.length := List.length_pos_of_mem hin
    refine (chain_out g b i l row.length w H (by rw [R.len]; omega) (by rw [R.len]; omega) _ hx h0 ha hb hpos (by omega)).mono ?_
    rintro e w' ⟨rfl, S⟩
    refine ⟨rfl, _, R', ?_⟩
    rw [List.length_erase_of_mem hin]; exact S
  · have h0 : inn l i = false := by
      cases h : inn l i
      · rfl
      · exact absurd ((R.ins i hi).1 h) hin
    refine (chain_out_not g b i l row.length w H (by rw [R.len]; omega) (by rw [R.len]; omega) _ hx h0).mono ?_
    rintro e w' ⟨rfl, S⟩
    rw [List.erase_of_not_mem hin]
    exact ⟨rfl, l, R, S⟩
set_option maxHeartbeats 400000 in
theorem chain_front {N : Nat} {l : List Link} {row : List Nat} (R : Ring N l row) (g b i : Nat) (w : World) (H : HC w (chainB g b l row.length)) (hN : N ≤ 4096) (hi : i < N) :
    Calls Tryz.prog 118 #[.pointer (some ⟨g, 0, none⟩), .int .i64 i] w fun e w' => e = .returned (.int .i64 0) ∧
      ∃ l', Ring N l' (i :: row.erase i) ∧ St w (FP w (chainB g b l row.length)) w' (chainB g b l' (i :: row.erase i).length) := by
  have hth := Lib.hid (chain_there g b i l row.length w H (by rw [R.len]; omega) (by rw [R.len]; omega))
  have hout := Lib.hid (chain_out_any R g b i w H hN hi)
  go_enter Tryz.func118, Tryz.ntmps118
  go_wp2_with (go_at_call 138; refine hth.out.mono ?_; rintro e w' ⟨rfl, rfl⟩)
  refine hout.out.mono ?_
  rintro e w1 ⟨rfl, l1, R1, S1⟩
  have hroot := Lib.hid (chain_root g b l1 _ w1 S1.hc (by rw [R1.len]; omega) (by rw [R1.len]; omega))
  have hput := Lib.hid (chain_put g b i N (bh l1 N) l1 (row.erase i).length w1 S1.hc (by rw [R1.len]; omega) (by rw [R1.len]; omega) (by
      have := R1.first
      have hm := List.head_mem (l := row.erase i ++ [N]) (by simp)
      rw [← this] at hm
      rcases List.mem_append.1 hm with h | h
      · have := R1.lt _ h; rw [R1.len]; omega
      · simp at h; rw [R1.len]; omega) _ (R1.get N (by omega)) rfl (by have := R1.le; omega) (by rw [R1.len]; omega))
  have hlen : l1.length - 1 = N := by rw [R1.len]; omega
  rw [hlen] at hroot
  clear hlen
  go_wp2_with (go_at_call 141; refine hroot.out.mono ?_; rintro e w' ⟨rfl, rfl⟩)
  refine hput.out.mono ?_
  rintro e w2 ⟨rfl, S2⟩
  go_wp2
  go_ret
  refine ⟨rfl, _, R1.put i hi ?_, S1.seq S2⟩
  intro h
  exact (List.nodup_cons.1 R.nodup).2.not_mem_erase h

set_option maxHeartbeats 400000 in
theorem chain_cut {N : Nat} {l : List Link} {row : List Nat} (R : Ring N l row) (g b i : Nat) (w : World) (H : HC w (chainB g b l row.length)) (hN : N ≤ 4096) (hi : i < N) :
    Calls Tryz.prog 137 #[.pointer (some ⟨g, 0, none⟩), .int .i64 i] w fun e w' => (∃ q, e = .returned (.int .i64 q)) ∧
      ∃ l', Ring N l' (row.erase i) ∧ St w (FP w (chainB g b l row.length)) w' (chainB g b l' (row.erase i).length) := by
  have hth := Lib.hid (chain_there g b i l row.length w H (by rw [R.len]; omega) (by rw [R.len]; omega))
  have hout := Lib.hid (chain_out_any R g b i w H hN hi)
  have S := H.st
  have S' := S
  unfold chainB at S'
  have c0 := S'.cell 0 rfl 0 rfl
  have hx := R.get i (by omega)
  have c4 := S'.cell 1 rfl (i * 3 + 2) ((fm_get encL_len l i 2 _ hx (by omega)).trans rfl)
  have hlen : i < l.length := by rw [R.len]; omega
  have hlen2 : l.length ≤ 4097 := by rw [R.len]; omega
  by_cases hin : i ∈ row
  · have h0 : inn l i = true := (R.ins i hi).2 hin
    simp only [h0] at c4
    clear h0 hx
    go_enter Tryz.func137, Tryz.ntmps137
    go_wp2_with (go_at_call 138; refine hth.out.mono ?_; rintro e w' ⟨rfl, rfl⟩)
    refine hout.out.mono ?_
    rintro e w1 ⟨rfl, l1, R1, S1⟩
    go_wp2
    go_ret
    exact ⟨⟨_, rfl⟩, l1, R1, S1⟩
  · have h0 : inn l i = false := by
      cases h : inn l i
      · rfl
      · exact absurd ((R.ins i hi).1 h) hin
    simp only [h0] at c4
    clear h0 hx
    go_enter Tryz.func137, Tryz.ntmps137
    go_wp2_with (go_at_call 138; refine hth.out.mono ?_; rintro e w' ⟨rfl, rfl⟩)
    go_ret
    refine ⟨⟨_, rfl⟩, l, ?_, ?_⟩
    · rw [List.erase_of_not_mem hin]; exact R
    · rw [List.erase_of_not_mem hin]; exact S
set_option maxHeartbeats 400000 in
theorem chain_len (g b : Nat) (l : List Link) (n : Nat) (w : World) (H : HC w (chainB g b l n)) :
    Calls Tryz.prog 150 #[.pointer (some ⟨g, 0, none⟩)] w fun e w' => e = .returned (.int .i64 n) ∧ w = w' := by
  have S := H.st
  unfold chainB at S
  have c0 := S.cell 0 rfl 1 rfl
  go_enter Tryz.func150, Tryz.ntmps150
  go_wp2
  go_ret
  exact ⟨rfl, rfl⟩
/-- What Last tells. -/
def lastOf (row : List Nat) : Value := .tuple #[.int .i64 (row.getLastD 0), .bool (!row.isEmpty)]
set_option maxRecDepth 100000 in
set_option maxHeartbeats 400000 in
theorem chain_last {N : Nat} {l : List Link} {row : List Nat} (R : Ring N l row) (g b : Nat) (w : World) (H : HC w (chainB g b l row.length)) (hN : N ≤ 4096) :
    Calls Tryz.prog 135 #[.pointer (some ⟨g, 0, none⟩)] w fun e w' => e = .returned (lastOf row) ∧ ∃ q, w' = w.drewN q := by
  have hlen := Lib.hid (chain_len g b l row.length w H)
  have S := H.st
  unfold chainB at S
  have c0 := S.cell 0 rfl 0 rfl
  have hl : N < l.length := by rw [R.len]; omega
  by_cases hr : row = []
  · subst hr
    go_enter Tryz.func135, Tryz.ntmps135
    go_wp2_with (go_at_call 150; refine hlen.out.mono ?_; rintro e w' ⟨rfl, rfl⟩)
    go_ret2
    exact ⟨rfl, 0, rfl⟩
  · have c1 := S.cell 1 rfl (N * 3) ((fm_get0 encL_len l N _ (R.get N (by omega)) (by omega)).trans rfl)
    have hroot := Lib.hid (fun n => chain_root g b l row.length (w.drewN n) (H.drewN n) (by rw [R.len]; omega) (by omega))
    have hlen1 : l.length - 1 = N := by rw [R.len]; omega
    rw [hlen1] at hroot
    have hfin : Hid (lastOf row = .tuple #[.int .i64 (ah l N), .bool true]) := by
      show lastOf row = _
      unfold lastOf
      rw [R.last_mem hr]
      cases row with
      | nil => exact absurd rfl hr
      | cons x r => rfl
    have hpos : ¬ ((row.length : Int) = 0) := by
      have := List.length_pos_iff.2 hr; omega
    clear hlen1
    go_enter Tryz.func135, Tryz.ntmps135
    go_wp2_with (go_at_call 150; refine hlen.out.mono ?_; rintro e w' ⟨rfl, rfl⟩)
    go_quiet ((go_at_call 141; exact quiet_eq (hroot.out _)))
    go_wp2
    go_ret2
    refine ⟨by rw [hfin.out]; rfl, _, rfl⟩
theorem link_info : (Tryz.prog.info? 155).map (fun i => (i.zero, i.size, i.bytes)) = some (some (.agg #[.int .i64 0, .int .i64 0, .bool false]), 3, 24) := by kernel_rfl
theorem ring_new (n : Nat) : Ring n ((List.replicate (n + 1) (⟨0, 0, false⟩ : Link)).set n ⟨n, n, false⟩) [] := by
  have hg : ∀ k, k ≤ n → (((List.replicate (n + 1) (⟨0, 0, false⟩ : Link)).set n ⟨n, n, false⟩).getD k default) = if k = n then ⟨n, n, false⟩ else ⟨0, 0, false⟩ := by
    intro k hk
    rw [getD_set (by simp)]
    split
    · rfl
    · rw [List.getD_eq_getElem?_getD, List.getElem?_replicate, if_pos (by omega)]; rfl
  refine ⟨by simp, by simp, by simp, ⟨?_, ?_⟩, fun i hi => ?_⟩
  · exact (congrArg Link.behind (hg n (Nat.le_refl _))).trans (by simp)
  · exact (congrArg Link.ahead (hg n (Nat.le_refl _))).trans (by simp)
  · have h : inn ((List.replicate (n + 1) (⟨0, 0, false⟩ : Link)).set n ⟨n, n, false⟩) i = false := (congrArg Link.isin (hg i (by omega))).trans (by rw [if_neg (by omega)])
    rw [h]; simp
set_option maxRecDepth 100000 in
set_option maxHeartbeats 400000 in
theorem chain_new (n : Nat) (w : World) (h1 : 1 ≤ n) (h2 : n ≤ 4096) :
    Calls Tryz.prog 70 #[.int .i64 n] w fun e w' => ∃ g b l, e = .returned (.tuple #[.pointer (some ⟨g, 0, none⟩), .int .i64 0]) ∧ Ring n l [] ∧ St w (FP w []) w' (chainB g b l 0) := by
  have S := St.nil w
  go_enter Tryz.func70, Tryz.ntmps70
  go_wp2_with (at_make; refine wpl_make S rfl _ _ _ rfl 155 _ _ 3 24 Tryz.underlying151 link_info ⟨rfl, rfl, Nat.zero_lt_succ _⟩ .i64 .i64 _ _ rfl rfl ?_ ?_; (omega))
  intro b w1 hb S1
  have E1 : Hid ((List.replicate (n + 1) [Value.int .i64 0, .int .i64 0, .bool false]).flatten = (List.replicate (n + 1) (⟨0, 0, false⟩ : Link)).flatMap encL) := by
    show _ = _
    rw [List.flatMap_def, List.map_replicate]; rfl
  replace S1 : St _ _ w1 [(b, C _ ((List.replicate (n + 1) (⟨0, 0, false⟩ : Link)).flatMap encL))] := E1.out ▸ S1
  clear E1
  go_wp2_with (refine wpl_box S1 rfl _ _ rfl _ rfl ?_)
  intro g w2 hg S2
  have d0 := S2.cell 0 rfl 0 rfl
  have E2 := Lib.hid (fm_put encL_len (List.replicate (n + 1) (⟨0, 0, false⟩ : Link)) n ⟨n, n, false⟩ (by simp))
  have Z1 := Lib.hid (fm_length encL_len (List.replicate (n + 1) (⟨0, 0, false⟩ : Link)))
  go_wp2_with (refine wpl_store rfl _ _ _ rfl _ _ rfl _ rfl Tryz.sizeOf155 S2 1 _ _ rfl (by rw [Z1.out]; simp [Act.eval, Value.cells]; omega) (by simp [Act.eval, Value.cells, Value.oneCell']) ?_)
  intro w3 S3 _
  replace S3 : St _ _ w3 [_, (b, C _ (((List.replicate (n + 1) (⟨0, 0, false⟩ : Link)).set n ⟨n, n, false⟩).flatMap encL))] := E2.out ▸ S3
  go_wp2
  go_ret2
  refine ⟨g, b, _, rfl, ring_new n, ?_⟩
  unfold chainB
  rw [show ((List.replicate (n + 1) (⟨0, 0, false⟩ : Link)).set n ⟨n, n, false⟩).length = n + 1 by simp]
  exact S3
end Go.Proofs.YtnobknmhffaoeaaGreatDoor
