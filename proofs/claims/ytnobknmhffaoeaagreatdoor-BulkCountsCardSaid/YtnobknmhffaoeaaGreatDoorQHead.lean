/- check.More. check.Sum, of one text. head.Right, of a head that may be. head.numbers. head.Encode, of a head that may be (UNDER WAY: ends in sorry at the loop). -/
import Derived.Test.YtnobknmhffaoeaaGreatDoorQChunk
import Derived.Laws.BitsAllLaws
import Derived.Test.YtnobknmhffaoeaaGreatDoorQMay
set_option linter.unusedVariables false
set_option linter.unusedSimpArgs false
namespace Go.Proofs.YtnobknmhffaoeaaGreatDoor
open Go.RowKit
/-- The two halves of a sum behind one more byte. -/
def halfB (p : Nat × Nat) (c : UInt8) : Nat × Nat := ((p.1 + c.toNat) % 65521, (p.2 + (p.1 + c.toNat) % 65521) % 65521)
def halves (s : Nat) : Nat × Nat := (s % 65536 % 65521, s / 65536 % 65521)
def moreN (s : Nat) (l : List UInt8) : Nat := (l.foldl halfB (halves s)).2 * 65536 + (l.foldl halfB (halves s)).1
theorem halfB_lt (l : List UInt8) : ∀ p : Nat × Nat, p.1 < 65521 → p.2 < 65521 → (l.foldl halfB p).1 < 65521 ∧ (l.foldl halfB p).2 < 65521 := by
  induction l with
  | nil => intro p h1 h2; exact ⟨h1, h2⟩
  | cons c l ih => intro p h1 h2; exact ih _ (Nat.mod_lt _ (by omega)) (Nat.mod_lt _ (by omega))
theorem bits_or16 (a b : Nat) (ha : a < 65521) (hb : b < 65521) : bits BinOp.or IntKind.u32 ((b : Int) * 65536) (a : Int) = ((b * 65536 + a : Nat) : Int) := by
  have h1 : (b : Int) * 65536 = ((b * 65536 : Nat) : Int) := by omega
  rw [h1]
  have h2 : b * 65536 ||| a = b * 65536 + a := by
    have := Nat.shiftLeft_add_eq_or_of_lt (show a < 2 ^ 16 by omega) b
    rw [Nat.shiftLeft_eq] at this
    exact this.symm
  rw [← h2]
  exact u32_or_nat _ _ (by omega) (by omega)
section
variable (w : World)
set_option maxRecDepth 100000 in
set_option maxHeartbeats 2000000 in
theorem check_more (s : Nat) (hs : s < 4294967296) (v : Value) (l : List UInt8) (hr : Rd eByte w v l) (hl : l.length ≤ 1000000) :
    Calls Tryz.prog 81 #[.int .u32 s, v] w fun e w' => e = .returned (.int .u32 (moreN s l)) ∧ w' = w := by
  obtain ⟨B, cc, rfl, _, _⟩ := hr.slice
  have hr' := Lib.hid hr
  have hlt := Lib.hid (fun j => halfB_lt (l.take j) (halves s) (Nat.mod_lt _ (by omega)) (Nat.mod_lt _ (by omega)))
  have hall : Hid (moreN s l = ((l.take l.length).foldl halfB (halves s)).2 * 65536 + ((l.take l.length).foldl halfB (halves s)).1) := by
    show _ = _; rw [List.take_length]; rfl
  have hstep : Hid (∀ j x, l[j]? = some x → (l.take (j + 1)).foldl halfB (halves s) = halfB ((l.take j).foldl halfB (halves s)) x) := by
    intro j x h
    rw [List.take_add_one, h]; simp
  have hget : Hid (∀ j, j < l.length → ∃ x, l[j]? = some x) := fun j h => ⟨_, List.getElem?_eq_getElem h⟩
  have h0a : (s : Int) % 65536 % 65521 = ((halves s).1 : Nat) := by show _ = ((s % 65536 % 65521 : Nat) : Int); omega
  have h0b : (s : Int) / 65536 % 65521 = ((halves s).2 : Nat) := by show _ = ((s / 65536 % 65521 : Nat) : Int); omega
  have hz : Hid ((l.take 0).foldl halfB (halves s) = halves s) := rfl
  generalize halves s = p0 at *
  generalize moreN s l = res at *
  clear hr
  obtain ⟨m, hm⟩ : ∃ m, l.length = m := ⟨_, rfl⟩
  rw [hm] at hl hall hget
  rw [hm] at hr' ⊢
  clear hm
  go_enter Tryz.func81, Tryz.ntmps81
  go_wp2
  go_loopw [5, 6, 8, 17] (fun lo hi _ jv wr => ∃ (j : Nat) (p : Nat × Nat), jv = .int .i64 j ∧ j ≤ m ∧ lo = .int .u32 (p.1 : Nat) ∧ hi = .int .u32 (p.2 : Nat) ∧ Hid (p = (l.take j).foldl halfB p0) ∧ wr = w) (fun _ _ _ jv _ => m - (intOf jv).toNat)
  case atStart => exact ⟨0, p0, rfl, by omega, by rw [h0a], by rw [h0b], Lib.hid hz.out.symm, rfl⟩
  case round =>
    obtain ⟨j, p, rfl, hj, rfl, rfl, hp, rfl⟩ := hrel
    have hb := hlt.out j
    rw [← hp.out] at hb
    obtain ⟨hb1, hb2⟩ := hb
    by_cases hlt' : j < m
    · obtain ⟨x, hx⟩ := hget.out j hlt'
      obtain ⟨b, off, rfl, hc⟩ := hr'.out.get hx
      have c1 : wr.cell? ⟨b, off + j, none⟩ = some (.int .u8 x.toNat) := by have := hc 0 _ rfl; simpa [eByte] using this
      have ht := Lib.hid (hstep.out j x hx)
      have hx1 : x.toNat < 256 := x.toNat_lt
      have q1 : (j : Int) < (m : Int) := by omega
      have q2 : IntKind.i64.wrap ((j : Int) + 1) = ((j + 1 : Nat) : Int) := by rw [IntWalk.i64_in _ (by omega)]; omega
      clear hx hc
      go_wp2
      go_roundw
      case rel =>
        refine ⟨j + 1, halfB p x, by simp, by omega, ?_, ?_, Lib.hid (by rw [ht.out, ← hp.out]), trivial⟩
        · show Value.int _ _ = Value.int _ (((p.1 + x.toNat) % 65521 : Nat) : Int)
          congr 1
        · show Value.int _ _ = Value.int _ (((p.2 + (p.1 + x.toNat) % 65521) % 65521 : Nat) : Int)
          congr 1
      case measure => simp [intOf]; omega
    · have hjm : j = m := by omega
      subst hjm
      have q1 : ¬ (j : Int) < (j : Int) := by omega
      go_wp2
      go_ret
      refine ⟨?_, rfl⟩
      have e1 : bits BinOp.or IntKind.u32 ((p.2 : Int) * 65536) (p.1 : Int) = ((p.2 * 65536 + p.1 : Nat) : Int) := bits_or16 p.1 p.2 hb1 hb2
      rw [hall.out, ← hp.out, ← e1]
      rfl
end
end Go.Proofs.YtnobknmhffaoeaaGreatDoor
namespace Go.Proofs.YtnobknmhffaoeaaGreatDoor
open Go.RowKit
theorem moreN_lt (s : Nat) (l : List UInt8) : moreN s l < 4294967296 := by
  have := halfB_lt l (halves s) (Nat.mod_lt _ (by omega)) (Nat.mod_lt _ (by omega))
  unfold moreN; omega
section
variable (w : World)
set_option maxRecDepth 100000 in
set_option maxHeartbeats 2000000 in
theorem check_sum (g off c : Nat) (v : Value) (l : List UInt8) (hg : w.cell? ⟨g, off, none⟩ = some v) (hr : Rd eByte w v l) (hl : l.length ≤ 1000000) :
    Calls Tryz.prog 55 #[.slice (some ⟨g, off, none⟩) 1 c] w fun e w' => e = .returned (.int .u32 (moreN 1 l)) ∧ w' = w := by
  have hm := Lib.hid (check_more w 1 (by omega) v l hr hl)
  have hv : Hid (∃ A n c, v = .slice A n c) := by obtain ⟨A, c, rfl, _⟩ := hr; exact ⟨A, _, c, rfl⟩
  obtain ⟨res, hres⟩ : ∃ r, moreN 1 l = r := ⟨_, rfl⟩
  rw [hres] at hm ⊢
  clear hres hr
  obtain ⟨A, n, cc, rfl⟩ := hv.out
  clear hv
  go_enter Tryz.func55, Tryz.ntmps55
  go_wp2
  go_loopw [3, 5, 8] (fun sv _ jv wr => ∃ j : Nat, jv = .int .i64 j ∧ ((j = 0 ∧ sv = .int .u32 1) ∨ (j = 1 ∧ sv = .int .u32 res)) ∧ wr = w) (fun _ _ jv _ => 1 - (intOf jv).toNat)
  case atStart => exact ⟨0, rfl, .inl ⟨rfl, rfl⟩, rfl⟩
  case round =>
    obtain ⟨j, rfl, ⟨rfl, rfl⟩ | ⟨rfl, rfl⟩, rfl⟩ := hrel
    · have hg' : wr.cell? ⟨g, off + 0, none⟩ = some (.slice A n cc) := hg
      go_wp2_with (go_at_call 81; refine hm.out.mono ?_; rintro e w2 ⟨rfl, rfl⟩)
      go_roundw
      case rel => exact ⟨1, rfl, .inr ⟨rfl, rfl⟩, trivial⟩
      case measure => simp [intOf]
    · go_wp2
      go_ret
      exact ⟨rfl, rfl⟩
end
end Go.Proofs.YtnobknmhffaoeaaGreatDoor
namespace Go.Proofs.YtnobknmhffaoeaaGreatDoor
open Go.RowKit
section
variable (w : World)
/-- A head's cells. -/
def headC (q : Cn) (root height : Nat) : List Value := q.c.cells ++ [.int .u32 root, .int .i64 height]
set_option maxRecDepth 100000 in
set_option maxHeartbeats 2000000 in
theorem head_right (q : Cn) (hq : q.Good) (root height : Nat) (r1 : 1 ≤ root) (r2 : root < q.blocks) (t1 : 1 ≤ height) (t2 : height ≤ 41) :
    Calls Tryz.prog 52 #[.agg (headC q root height).toArray] w fun e w' => e = .returned (.bool true) ∧ St w (FP w []) w' [] := by
  have hck := Lib.hid (fun w => conf_check q.c w)
  rw [q.check hq] at hck
  have S0 := St.nil w
  have p1 : decide ((1 : Int) ≤ (root : Int)) = true := by rw [decide_eq_true_iff]; omega
  have p2 : decide ((root : Int) < (q.blocks : Int)) = true := by rw [decide_eq_true_iff]; omega
  have p2' : decide (root < q.blocks) = true := by rw [decide_eq_true_iff]; omega
  have p3 : decide ((1 : Int) ≤ (height : Int)) = true := by rw [decide_eq_true_iff]; omega
  have p4 : decide ((height : Int) ≤ 41) = true := by rw [decide_eq_true_iff]; omega
  have p5 : IntKind.i64.wrap (root : Int) = (root : Int) := IntWalk.i64_in _ (by have := hq.b2; omega)
  have hb2 := hq.b2
  clear hq
  unfold headC
  go_enter Tryz.func52, Tryz.ntmps52
  go_wp2_with (refine wpl_box S0 rfl _ _ rfl _ rfl ?_)
  intro g w1 _ S1
  replace S1 : St w (FP w []) w1 [(g, C 57 (q.c.cells ++ [.int .u32 root, .int .i64 height]))] := S1
  have f0 : w1.cell? ⟨g, 0, none⟩ = some (.int .i64 (q.blocks : Nat)) := S1.cell 0 rfl 0 rfl
  have f1 : w1.cell? ⟨g, 1, none⟩ = some (.int .i64 (q.bytes : Nat)) := S1.cell 0 rfl 1 rfl
  have f2 : w1.cell? ⟨g, 2, none⟩ = some (.int .i64 (q.frames : Nat)) := S1.cell 0 rfl 2 rfl
  have f3 : w1.cell? ⟨g, 3, none⟩ = some (.int .i64 (q.fan : Nat)) := S1.cell 0 rfl 3 rfl
  have f4 : w1.cell? ⟨g, 4, none⟩ = some (.int .i64 (q.buffer : Nat)) := S1.cell 0 rfl 4 rfl
  have f5 : w1.cell? ⟨g, 5, none⟩ = some (.int .i64 (q.leaf : Nat)) := S1.cell 0 rfl 5 rfl
  have f6 : w1.cell? ⟨g, 6, none⟩ = some (.int .i64 (q.key : Nat)) := S1.cell 0 rfl 6 rfl
  have f7 : w1.cell? ⟨g, 7, none⟩ = some (.int .i64 (q.val : Nat)) := S1.cell 0 rfl 7 rfl
  have hck1 := Lib.hid (hck.out w1)
  have hS1 := Lib.hid S1
  clear S0 S1
  go_wp2_with (go_at_call 37; refine hck1.out.mono ?_)
  rintro e w2 ⟨rfl, S2⟩
  have S3 := hS1.out.pure S2
  have f0 : w2.cell? ⟨g, 0, none⟩ = some (.int .i64 (q.blocks : Nat)) := S3.cell 0 rfl 0 rfl
  have f8 : w2.cell? ⟨g, 8, none⟩ = some (.int .u32 root) := S3.cell 0 rfl 8 rfl
  have f9 : w2.cell? ⟨g, 9, none⟩ = some (.int .i64 height) := S3.cell 0 rfl 9 rfl
  have hS3 := Lib.hid S3
  clear S2 S3 hS1 hck1
  go_wp2
  go_ret
  exact ⟨rfl, St.right (A := [_]) (hS3.out.cast (List.append_nil _).symm)⟩
end
end Go.Proofs.YtnobknmhffaoeaaGreatDoor
namespace Go.Proofs.YtnobknmhffaoeaaGreatDoor
open Go.RowKit
/-- The pointers to a head's numbers. -/
def numsL (g : Nat) : List Value := [.pointer (some ⟨g, 0, none⟩), .pointer (some ⟨g, 1, none⟩), .pointer (some ⟨g, 2, none⟩), .pointer (some ⟨g, 3, none⟩), .pointer (some ⟨g, 4, none⟩), .pointer (some ⟨g, 5, none⟩), .pointer (some ⟨g, 6, none⟩), .pointer (some ⟨g, 7, none⟩), .pointer (some ⟨g, 9, none⟩)]
section
variable (w : World)
set_option maxRecDepth 100000 in
set_option maxHeartbeats 2000000 in
theorem head_numbers (g : Nat) : Calls Tryz.prog 53 #[.pointer (some ⟨g, 0, none⟩)] w fun e w' => e = .returned (.agg (numsL g).toArray) ∧ St w (FP w []) w' [] := by
  have S0 := St.nil w
  have mixed : Tryz.prog.follows .mixedOrders = true := by kernel_rfl
  go_enter Tryz.func53, Tryz.ntmps53
  go_wp2_with (refine wpl_alloc S0 rfl _ rfl _ (fun w => by first | exact Tryz.zeroValue107 w | kernel_rfl) ?_)
  intro g2 w1 _ S1
  have hS1 := Lib.hid S1.drew
  clear S0 S1
  go_wp2_with fail
  go_still_tail 28, (by kernel_rfl)
  go_wp2_with (refine wpl_store rfl _ _ _ rfl _ _ rfl _ rfl Tryz.sizeOf107 hS1.out 0 _ _ rfl ?_ ?_ ?_; (show 0 + 9 ≤ 9; omega); (simp [Act.eval, Value.cells, Value.oneCell']))
  intro w2 S2 _
  replace S2 : St w (FP w []) w2 [(g2, C 107 (numsL g))] := S2
  have hS2 := Lib.hid S2
  clear S2
  go_wp2
  refine ret_cell hS2.out 0 rfl rfl rfl rfl _ Tryz.underlying107 rfl (by kernel_rfl) ?_
  exact ⟨rfl, St.right (A := [_]) (hS2.out.cast (List.append_nil _).symm)⟩
end
end Go.Proofs.YtnobknmhffaoeaaGreatDoor
namespace Go.Proofs.YtnobknmhffaoeaaGreatDoor
open Go.RowKit
def nameL : List UInt8 := [83, 76, 85, 73, 67, 69, 48, 49]
def numsN (q : Cn) : List Nat := [q.blocks, q.bytes, q.frames, q.fan, q.buffer, q.leaf, q.key, q.val]
theorem numsN_at {q : Cn} (hq : q.Good) (j : Nat) (hj : j < 8) : ∃ x, (numsN q)[j]? = some x ∧ x ≤ 65536 := by
  have h1 := hq.b2
  have h2 := hq.y2
  have h3 := hq.r2
  have h4 := hq.f2
  have h5 := hq.u2
  have h6 := hq.l2
  have h7 := hq.k2
  have h8 := hq.v2
  rcases j with _ | _ | _ | _ | _ | _ | _ | _ | j
  · exact ⟨_, rfl, h1⟩
  · exact ⟨_, rfl, h2⟩
  · exact ⟨_, rfl, by omega⟩
  · exact ⟨_, rfl, by omega⟩
  · exact ⟨_, rfl, by omega⟩
  · exact ⟨_, rfl, by omega⟩
  · exact ⟨_, rfl, by omega⟩
  · exact ⟨_, rfl, by omega⟩
  · omega
theorem numsL_at (g j : Nat) (hj : j < 8) : (numsL g)[j]? = some (.pointer (some ⟨g, j, none⟩)) := by
  rcases j with _ | _ | _ | _ | _ | _ | _ | _ | j
  all_goals first | rfl | omega
theorem headC_at (q : Cn) (r h j x : Nat) (hj : j < 8) (hx : (numsN q)[j]? = some x) : (headC q r h)[j]? = some (.int .i64 x) := by
  rcases j with _ | _ | _ | _ | _ | _ | _ | _ | j
  all_goals first | (injection hx with hx; subst hx; rfl) | omega
theorem be_flat_len (l : List Nat) : (l.flatMap (be 4)).length = 4 * l.length := by
  induction l with
  | nil => rfl
  | cons a l ih => rw [List.flatMap_cons, List.length_append, ih, List.length_cons]; simp [be]; omega
theorem numsB_len (q : Cn) (j : Nat) (hj : j ≤ 8) : (nameL ++ ((numsN q).take j).flatMap (be 4)).length ≤ 40 := by
  rw [List.length_append, be_flat_len, List.length_take]
  have h1 : (numsN q).length = 8 := rfl
  have h2 : nameL.length = 8 := rfl
  omega
theorem u64_wrap32 (x : Nat) (h : x < 4294967296) : IntKind.u64.wrap (x : Int) = (x : Int) := by
  unfold IntKind.wrap
  simp only [IntKind.bits, IntKind.signed]
  simp
  omega
/-- A head's block. -/
def headFront (q : Cn) (root height : Nat) : List UInt8 :=
  nameL ++ ([q.blocks, q.bytes, q.frames, q.fan, q.buffer, q.leaf, q.key, q.val] ++ [root, height]).flatMap (be 4) ++ List.replicate 12 0
def headL (q : Cn) (root height : Nat) : List UInt8 :=
  headFront q root height ++ be 4 (moreN 1 (headFront q root height)) ++ List.replicate (q.bytes - 64) 0
theorem freeze_new (w : World) (cs : Array Value) (t : Nat) : (w.alloc (.cells cs t)).freeze ⟨w.heap.size, cs.size, none⟩ 1 = w.alloc (.cells cs t (cs.size, cs.size + 1)) := by
  unfold World.freeze World.alloc
  rw [if_neg (by omega)]
  congr 1
  apply Array.ext
  · simp
  · intro i h1 h2
    rw [Array.getElem_modify]
    split
    · rename_i h; subst h; simp
    · simp only [Array.getElem_push]
      split
      · rfl
      · rename_i h3 h4
        simp only [Array.size_modify, Array.size_push] at h1
        exact absurd (show w.heap.size = i by omega) h3
theorem conv_bytes (n c : Nat) (cs : Array Value) (w : World) : (convert 29 29 (.slice (some ⟨w.heap.size, 0, none⟩) n c)).run Tryz.prog (w.alloc (.cells cs 5)) = .ok (.slice (some ⟨w.heap.size, 0, none⟩) n c) (w.alloc (.cells cs 5 (cs.size, cs.size + 1))) := by
  have hsh : (w.alloc (.cells cs 5)).shape? w.heap.size = some (5, cs.size) := by
    have : (w.alloc (.cells cs 5)).heap[w.heap.size]? = some (.cells cs 5 (0, 0)) := by
      show (w.heap.push _)[w.heap.size]? = _
      simp
    unfold World.shape?
    rw [this]
  have hf := freeze_new w cs 5
  simp [convert, run_underlying Tryz.underlying29, run_underlying Tryz.underlying5, markStringish, hsh, hf]
section
variable (w : World)
set_option maxRecDepth 100000 in
set_option maxHeartbeats 2000000 in
theorem head_encode (q : Cn) (hq : q.Good) (root height : Nat) (r1 : 1 ≤ root) (r2 : root < q.blocks) (t1 : 1 ≤ height) (t2 : height ≤ 41) :
    Calls Tryz.prog 21 #[.agg (headC q root height).toArray] w fun e w' => ∃ v L, e = .returned (.tuple #[v, .int .i64 0]) ∧ Own eByte 5 v (headL q root height) L ∧ St w (FP w []) w' L := by
  have hrt := Lib.hid (fun w => head_right w q hq root height r1 r2 t1 t2)
  have hnu := Lib.hid (fun g w => head_numbers w g)
  have hat := Lib.hid (fun j hj => numsN_at hq j hj)
  have hpt := Lib.hid (fun w u bs hr hl v hv => word_put w u bs hr hl 4 v (.inr (.inr (.inl rfl))) hv)
  have S0 := St.nil w
  have hrb : root ≤ 65536 := by have := hq.b2; omega
  have hyb : 64 ≤ q.bytes ∧ q.bytes ≤ 65536 := ⟨hq.y1, hq.y2⟩
  obtain ⟨hy1, hy2⟩ := hyb
  clear hq
  unfold headC at hrt ⊢
  go_enter Tryz.func21, Tryz.ntmps21
  go_wp2_with (refine wpl_box S0 rfl _ _ rfl _ rfl ?_)
  intro g w1 _ S1
  replace S1 : St w (FP w []) w1 [(g, C 57 (q.c.cells ++ [.int .u32 root, .int .i64 height]))] := S1
  have f0 : w1.cell? ⟨g, 0, none⟩ = some (.int .i64 (q.blocks : Nat)) := S1.cell 0 rfl 0 rfl
  have f1 : w1.cell? ⟨g, 1, none⟩ = some (.int .i64 (q.bytes : Nat)) := S1.cell 0 rfl 1 rfl
  have f2 : w1.cell? ⟨g, 2, none⟩ = some (.int .i64 (q.frames : Nat)) := S1.cell 0 rfl 2 rfl
  have f3 : w1.cell? ⟨g, 3, none⟩ = some (.int .i64 (q.fan : Nat)) := S1.cell 0 rfl 3 rfl
  have f4 : w1.cell? ⟨g, 4, none⟩ = some (.int .i64 (q.buffer : Nat)) := S1.cell 0 rfl 4 rfl
  have f5 : w1.cell? ⟨g, 5, none⟩ = some (.int .i64 (q.leaf : Nat)) := S1.cell 0 rfl 5 rfl
  have f6 : w1.cell? ⟨g, 6, none⟩ = some (.int .i64 (q.key : Nat)) := S1.cell 0 rfl 6 rfl
  have f7 : w1.cell? ⟨g, 7, none⟩ = some (.int .i64 (q.val : Nat)) := S1.cell 0 rfl 7 rfl
  have f8 : w1.cell? ⟨g, 8, none⟩ = some (.int .u32 root) := S1.cell 0 rfl 8 rfl
  have f9 : w1.cell? ⟨g, 9, none⟩ = some (.int .i64 height) := S1.cell 0 rfl 9 rfl
  have hrt1 := Lib.hid (hrt.out w1)
  have hS1 := Lib.hid S1
  clear S0 S1 hrt
  go_wp2_with (go_at_call 52; refine hrt1.out.mono ?_)
  rintro e w2 ⟨rfl, S2⟩
  have S3 := hS1.out.pure S2
  have hS3 := Lib.hid S3
  clear S2 S3 hS1 hrt1 f0 f1 f2 f3 f4 f5 f6 f7 f8 f9
  have hcv := fun n c cs => conv_bytes n c cs w2
  have S4 := hS3.out.alloc (.cells #[.int .u8 83, .int .u8 76, .int .u8 85, .int .u8 73, .int .u8 67, .int .u8 69, .int .u8 48, .int .u8 49] 5 (8, 9))
  have hS4 := Lib.hid S4
  have hnu1 := Lib.hid (fun w => hnu.out g w)
  clear S4
  go_wp2_with (go_at_call 53; refine (hnu1.out _).mono ?_)
  rintro e w3 ⟨rfl, S5⟩
  have S6 := hS4.out.pure S5
  have hS6 := Lib.hid S6
  clear S5 S6
  go_wp2_with (refine wpl_alloc hS6.out rfl _ rfl _ (fun w => by first | exact Tryz.zeroValue107 w | kernel_rfl) ?_)
  intro g5 w4 _ S7
  have hS7 := Lib.hid S7
  clear S7
  go_wp2_with (refine wpl_store rfl _ _ _ rfl _ _ rfl _ rfl Tryz.sizeOf107 hS7.out 0 _ _ rfl ?_ ?_ ?_; (show 0 + 9 ≤ 9; omega); (simp [numsL, Act.eval, Value.cells, Value.oneCell']))
  intro w5 S8 _
  replace S8 : St w (FP w []) w5 [(g5, C 107 (numsL g)), (w2.heap.size, .cells #[.int .u8 83, .int .u8 76, .int .u8 85, .int .u8 73, .int .u8 67, .int .u8 69, .int .u8 48, .int .u8 49] 5 (8, 9)), (g, C 57 (q.c.cells ++ [.int .u32 root, .int .i64 height]))] := S8
  have hS8 := Lib.hid S8
  clear S8
  have R0 : Rd eByte w5 (.slice (some ⟨w2.heap.size, 0, none⟩) 8 8) nameL := by
    refine ⟨some ⟨w2.heap.size, 0, none⟩, 8, rfl, by decide, by decide, fun k u hk => ⟨_, _, rfl, ?_⟩⟩
    have hb := hS8.out.hc.at_ 1 rfl
    rw [cell_of_row w5 w2.heap.size (0 + k) _ 5 (8, 9) hb, Nat.zero_add, List.getElem?_toArray]
    exact hk
  have hR0 := Lib.hid R0
  clear R0
  go_wp2
  go_loopw [4, 7, 16] (fun bv _ jv wr => ∃ (j : Nat) (u : Value) (bs : List UInt8), jv = .int .i64 j ∧ u = bv ∧ j ≤ 8 ∧ Hid (bs = nameL ++ ((numsN q).take j).flatMap (be 4)) ∧ Rd eByte wr u bs ∧
    St w (FP w []) wr [(g5, C 107 (numsL g)), (w2.heap.size, .cells #[.int .u8 83, .int .u8 76, .int .u8 85, .int .u8 73, .int .u8 67, .int .u8 69, .int .u8 48, .int .u8 49] 5 (8, 9)), (g, C 57 (q.c.cells ++ [.int .u32 root, .int .i64 height]))]) (fun _ _ jv _ => 8 - (intOf jv).toNat)
  case atStart => exact ⟨0, _, nameL, rfl, rfl, by omega, Lib.hid (by simp), hR0.out, hS8.out⟩
  case round =>
    obtain ⟨j, u, bs, rfl, rfl, hj, hbs, hr, Sr⟩ := hrel
    by_cases hlt : j < 8
    · obtain ⟨x, hx, hx2⟩ := hat.out j hlt
      have c1 : wr.cell? ⟨g5, j, none⟩ = some (.pointer (some ⟨g, j, none⟩)) := Sr.cell 0 rfl j (numsL_at g j hlt)
      have c2 : wr.cell? ⟨g, j, none⟩ = some (.int .i64 x) := Sr.cell 2 rfl j (headC_at q root height j x hlt hx)
      have q1 : (j : Int) < (8 : Int) := by omega
      have q2 : IntKind.i64.wrap ((j : Int) + 1) = ((j + 1 : Nat) : Int) := by rw [IntWalk.i64_in _ (by omega)]; omega
      have q3 : IntKind.u64.wrap (x : Int) = (x : Int) := u64_wrap x (by omega)
      have hbl : bs.length ≤ 40 := by
        rw [hbs.out]; exact numsB_len q j hj
      have ht : Hid ((numsN q).take (j + 1) = (numsN q).take j ++ [x]) := by show _ = _; rw [List.take_add_one, hx]; rfl
      have hp1 := Lib.hid (hpt.out wr u bs hr (by omega) x (by omega))
      have hSr := Lib.hid Sr
      clear hx hr Sr hbl
      go_wp2_with (go_at_call 54; refine hp1.out.mono ?_; rintro e w6 ⟨u2, L, rfl, O, S2⟩; have S3 := hSr.out.pure S2; have hr2 := Lib.hid (O.rd S2.hc); have hS3 := Lib.hid (St.right S3))
      go_roundw
      case rel =>
        refine ⟨j + 1, u2, _, by simp, rfl, by omega, ?_, hr2.out, hS3.out⟩
        show _ = _
        rw [hbs.out, ht.out, List.flatMap_append, List.append_assoc]
        simp
      case measure => simp [intOf]; omega
    · have hj8 : j = 8 := by omega
      subst hj8
      have hbl : bs.length = 40 := by rw [hbs.out]; rfl
      have f8 : wr.cell? ⟨g, 8, none⟩ = some (.int .u32 root) := Sr.cell 2 rfl 8 rfl
      have q3 : IntKind.u64.wrap (root : Int) = (root : Int) := u64_wrap root (by omega)
      have q4 : IntKind.u64.wrap (height : Int) = (height : Int) := u64_wrap height (by omega)
      have hp1 := Lib.hid (hpt.out wr u bs hr (by omega) root (by omega))
      have hSr := Lib.hid Sr
      have hbl' := Lib.hid hbl
      clear hr Sr hbl hat hj hlt hS8 hR0
      go_wp2_with (go_at_call 54; refine hp1.out.mono ?_)
      rintro e w6 ⟨u1, L1, rfl, O1, T1⟩
      have T2 := hSr.out.pure T1
      have f9 : w6.cell? ⟨g, 9, none⟩ = some (.int .i64 height) := (St.right (A := L1) T2).cell 2 rfl 9 rfl
      have b4 : ∀ x, (be 4 x).length = 4 := fun x => by simp [be]
      have hp2 := Lib.hid (hpt.out w6 u1 _ (O1.rd T2.hc.left) (by rw [List.length_append, hbl'.out, b4]; omega) height (by omega))
      have hT2 := Lib.hid T2
      clear O1 T1 T2 hp1 f8
      go_wp2_with (go_at_call 54; refine hp2.out.mono ?_)
      rintro e w7 ⟨u2, L2, rfl, O2, T3⟩
      have T4 := (hT2.out.right (A := L1)).pure T3
      obtain ⟨b2, hb2⟩ : ∃ x, x = bs ++ be 4 root ++ be 4 height := ⟨_, rfl⟩
      have n2 : b2.length = 48 := by rw [hb2, List.length_append, List.length_append, hbl'.out, b4, b4]
      replace O2 : Own eByte 5 u2 b2 L2 := by rw [hb2]; simpa using O2
      have hT4 := Lib.hid T4
      have hO2 := Lib.hid O2
      have hn2 := Lib.hid n2
      replace hb2 := Lib.hid hb2
      clear T3 T4 O2 n2 hT2 hp2
      go_wp2_with (at_builtin; refine wpl_appZ hT4.out hO2.out rfl _ _ 29 3 rfl Tryz.underlying29 .i64 Tryz.underlying3 info_byte .i64 12 rfl rfl ?_ ?_; (rw [hn2.out]; omega))
      intro v3 w8 L3 O3 T5
      obtain ⟨b3, hb3⟩ : ∃ x, x = b2 ++ List.replicate 12 0 := ⟨_, rfl⟩
      have n3 : b3.length = 60 := by rw [hb3, List.length_append, hn2.out, List.length_replicate]
      replace O3 : Own eByte 5 v3 b3 L3 := by rw [hb3]; simpa using O3
      have hfr : Hid (b3 = headFront q root height) := by
        show _ = _
        rw [hb3, hb2.out, hbs.out]; unfold headFront
        rw [List.flatMap_append]
        simp [numsN, List.append_assoc]
      obtain ⟨B3, c3, hv3, _, _⟩ := O3.slice
      rw [n3] at hv3
      subst hv3
      have T6 := T5.alloc (C 29 [.slice B3 60 c3])
      have r3 := O3.rd (T6.right (A := [_])).hc.left
      have hsum := Lib.hid (check_sum _ w8.heap.size 0 1 (.slice B3 60 c3) _ (T6.cell 0 rfl 0 rfl) r3 (by rw [n3]; omega))
      have hlt := moreN_lt 1 b3
      have hp3 := Lib.hid (hpt.out _ (.slice B3 60 c3) _ r3 (by rw [n3]; omega) (moreN 1 b3) (by omega))
      have q5 : IntKind.u64.wrap ((moreN 1 b3 : Nat) : Int) = ((moreN 1 b3 : Nat) : Int) := u64_wrap32 _ (by omega)
      obtain ⟨sm, hsm⟩ : ∃ x, moreN 1 b3 = x := ⟨_, rfl⟩
      rw [hsm] at hsum hp3 q5
      have hT6 := Lib.hid T6
      have hn3 := Lib.hid n3
      replace hsm := Lib.hid hsm
      clear T5 T6 O3 r3 hlt n3 hb3
      go_wp2_with (first | (go_at_call 55; refine hsum.out.mono ?_; rintro e w9 ⟨rfl, rfl⟩) | (go_at_call 54; refine hp3.out.mono ?_))
      rintro e w9 ⟨u4, L4, rfl, O4, T7⟩
      have T8 := hT6.out.pure T7
      have f1 : w9.cell? ⟨g, 1, none⟩ = some (.int .i64 (q.bytes : Nat)) := (St.right (A := L3) (St.right (A := [_]) (St.right (A := L4) T8))).cell 2 rfl 1 rfl
      obtain ⟨b4', hb4⟩ : ∃ x, x = b3 ++ be 4 sm := ⟨_, rfl⟩
      have n4 : b4'.length = 64 := by rw [hb4, List.length_append, hn3.out, b4]
      replace O4 : Own eByte 5 u4 b4' L4 := by rw [hb4]; simpa using O4
      obtain ⟨B4, c4, hv4, _, _⟩ := O4.slice
      rw [n4] at hv4
      subst hv4
      have q6 : IntKind.i64.wrap ((q.bytes : Int) - 64) = ((q.bytes - 64 : Nat) : Int) := by rw [IntWalk.i64_in _ (by omega)]; omega
      have hT8 := Lib.hid T8
      have hO4 := Lib.hid O4
      have hn4 := Lib.hid n4
      replace hb4 := Lib.hid hb4
      clear T7 T8 O4 n4 hp3 hsum hT6
      go_wp2_with (at_builtin; refine wpl_appZ hT8.out hO4.out rfl _ _ 29 3 rfl Tryz.underlying29 .i64 Tryz.underlying3 info_byte .i64 (q.bytes - 64) rfl rfl ?_ ?_; (rw [hn4.out]; omega))
      intro v5 w10 L5 O5 T9
      have hO5 : Hid (Own eByte 5 v5 (headL q root height) L5) := by
        show Own _ _ _ _ _
        unfold headL
        rw [← hfr.out, hsm.out, ← hb4.out]; exact O5
      have hT9 := Lib.hid T9.left
      clear O5 T9
      go_wp2
      go_ret2
      exact ⟨_, L5, rfl, hO5.out, hT9.out⟩
end
end Go.Proofs.YtnobknmhffaoeaaGreatDoor
