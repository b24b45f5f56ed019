/- code.Encode, of nodes that are right. -/
import Derived.Test.YtnobknmhffaoeaaGreatDoorQWrite
set_option linter.unusedVariables false
set_option linter.unusedSimpArgs false
namespace Go.Proofs.YtnobknmhffaoeaaGreatDoor
open Go.RowKit
def blkL (q : Cn) (nd : Nd) : List UInt8 := fillL q.bytes (nodeL q nd)
theorem node_len {q : Cn} (hq : q.Good) {nd : Nd} (h : NdGood q nd) : (nodeL q nd).length ≤ q.bytes := by
  rcases h with ⟨h0, _, _, _, h4⟩ | hi
  · unfold nodeL
    rw [if_pos h0, outer_len h4.each]
    have h1 := hq.outer
    have : nd.pairs.length * (3 + q.key + q.val) ≤ q.leaf * (3 + q.key + q.val) := Nat.mul_le_mul_right _ h4.len
    omega
  · unfold nodeL
    have := hi.l1
    rw [if_neg (by omega), inner_len hq hi.peach]
    have := hq.inner
    omega
theorem enc_len {q : Cn} (hq : q.Good) {nd : Nd} (h : NdGood q nd) : (blkL q nd).length = q.bytes := by
  have := node_len hq h
  unfold blkL fillL
  rw [List.length_append, List.length_replicate]; omega
section
variable (w : World)
set_option maxRecDepth 100000 in
set_option maxHeartbeats 4000000 in
theorem code_encode {N : Nat} (hs : SortU32 N) (hN2 : N ≤ 100000) (q : Cn) (hq : q.Good) (nd : Nd) (hg : NdGood q nd) (hN : nd.kids.length ≤ N) (kv pv bv prv : Value) (hr : NdRd w kv pv bv prv nd) :
    Calls Tryz.prog 73 #[q.c.v, ndV nd.level kv pv bv prv] w fun e w' => ∃ v A, e = .returned (.tuple #[v, .int .i64 0]) ∧ Own eByte 5 v (blkL q nd) A ∧ St w (FP w []) w' A := by
  have S0 := St.nil w
  have hlen := node_len hq hg
  have hy2 := hq.y2
  obtain ⟨B1, c1, hv1, _, _⟩ := hr.kids.slice
  obtain ⟨B2, c2, hv2, _, _⟩ := hr.piv.slice
  obtain ⟨B3, c3, hv3, _, _⟩ := hr.buf.slice
  obtain ⟨B4, c4, hv4, _, _⟩ := hr.pairs.slice
  have hck := Lib.hid (fun w => conf_check q.c w)
  rw [q.check hq] at hck
  have hall := Lib.hid (fun w => lex_all w)
  have hri := Lib.hid (fun w1 R (S : St w (FP w []) w1 R) => node_right w1 hs hN2 q hq nd hg hN kv pv bv prv (hr.st S))
  have hwo : Hid (∀ w1 R (S : St w (FP w []) w1 R), nd.level = 0 → Calls Tryz.prog 94 #[q.c.v, ndV nd.level kv pv bv prv] w1 fun e w' => ∃ v A, e = .returned v ∧ Own eByte 5 v (nodeL q nd) A ∧ St w1 (FP w1 []) w' A) := by
    intro w1 R S h0
    rcases hg with ⟨_, _, _, _, h4⟩ | hi
    · have := code_writeOuter w1 q hq nd kv pv bv prv (hr.st S) h4.len h4.each
      rwa [show outerL q nd.pairs = nodeL q nd by unfold nodeL; rw [if_pos h0]] at this
    · have := hi.l1; omega
  have hwi : Hid (∀ w1 R (S : St w (FP w []) w1 R), nd.level ≠ 0 → Calls Tryz.prog 95 #[q.c.v, ndV nd.level kv pv bv prv] w1 fun e w' => ∃ v A, e = .returned v ∧ Own eByte 5 v (nodeL q nd) A ∧ St w1 (FP w1 []) w' A) := by
    intro w1 R S h0
    rcases hg with ⟨h, _⟩ | hi
    · exact absurd h h0
    · have := code_writeInner w1 q hq nd kv pv bv prv (hr.st S) hi
      rwa [show innerL q nd = nodeL q nd by unfold nodeL; rw [if_neg h0]] at this
  have henc : Hid (blkL q nd = nodeL q nd ++ List.replicate (q.bytes - (nodeL q nd).length) 0) := by show _ = _; rfl
  have hlb : (nodeL q nd).length ≤ 65536 := by omega
  have kw : IntKind.i64.wrap ((q.bytes : Int) - ((nodeL q nd).length : Int)) = ((q.bytes - (nodeL q nd).length : Nat) : Int) := by rw [IntWalk.i64_in _ (by omega)]; omega
  generalize blkL q nd = EL at *
  generalize nodeL q nd = NL at *
  rw [hv1, hv2, hv3, hv4] at hri hwo hwi ⊢
  have egO : ∀ args w, (callFunc 94 args).run Tryz.prog w = .ok (.enter 94 args) w := enters_of Tryz.func94 (by kernel_rfl) rfl
  have egI : ∀ args w, (callFunc 95 args).run Tryz.prog w = .ok (.enter 95 args) w := enters_of Tryz.func95 (by kernel_rfl) rfl
  clear hr hv1 hv2 hv3 hv4 hq hg hs hN hN2
  generalize nd.kids.length = n1 at *
  generalize nd.pivots.length = n2 at *
  generalize nd.buf.length = n3 at *
  generalize nd.pairs.length = n4 at *
  generalize nd.level = lv at *
  have hbb : Hid (NL.length + (q.bytes - NL.length) ≤ 2147483648) := by show _ ≤ _; omega
  have hq0 : Hid (q.bytes ≤ 65536) := hy2
  clear hlen hy2 hlb
  unfold Cfg.v
  go_enter Tryz.func73, Tryz.ntmps73
  go_wp2_with (refine wpl_box S0 rfl _ _ rfl _ rfl ?_)
  intro g2 w1 _ S1
  replace S1 : St w (FP w []) w1 [(g2, cfgO q)] := S1.cast (by first | rfl | rw [← cfg_cells]; rfl)
  go_wp2_with (refine wpl_box S1 rfl _ _ rfl _ rfl ?_)
  intro g3 w2 _ S2
  replace S2 : St w (FP w []) w2 [(g3, ndO lv (.slice B1 n1 c1) (.slice B2 n2 c2) (.slice B3 n3 c3) (.slice B4 n4 c4)), (g2, cfgO q)] := S2
  have F : Hid (∀ wr, St w (FP w []) wr [(g3, ndO lv (.slice B1 n1 c1) (.slice B2 n2 c2) (.slice B3 n3 c3) (.slice B4 n4 c4)), (g2, cfgO q)] →
    (wr.cell? ⟨g2, 0, none⟩ = some (.int .i64 (q.blocks : Nat)) ∧ wr.cell? ⟨g2, 1, none⟩ = some (.int .i64 (q.bytes : Nat)) ∧ wr.cell? ⟨g2, 2, none⟩ = some (.int .i64 (q.frames : Nat)) ∧ wr.cell? ⟨g2, 3, none⟩ = some (.int .i64 (q.fan : Nat)) ∧
     wr.cell? ⟨g2, 4, none⟩ = some (.int .i64 (q.buffer : Nat)) ∧ wr.cell? ⟨g2, 5, none⟩ = some (.int .i64 (q.leaf : Nat)) ∧ wr.cell? ⟨g2, 6, none⟩ = some (.int .i64 (q.key : Nat)) ∧ wr.cell? ⟨g2, 7, none⟩ = some (.int .i64 (q.val : Nat))) ∧
    (wr.cell? ⟨g3, 0, none⟩ = some (.int .i64 (lv : Nat)) ∧ wr.cell? ⟨g3, 1, none⟩ = some (.slice B1 n1 c1) ∧ wr.cell? ⟨g3, 2, none⟩ = some (.slice B2 n2 c2) ∧ wr.cell? ⟨g3, 3, none⟩ = some (.slice B3 n3 c3) ∧ wr.cell? ⟨g3, 4, none⟩ = some (.slice B4 n4 c4))) :=
    fun wr S => ⟨⟨S.cell 1 rfl 0 rfl, S.cell 1 rfl 1 rfl, S.cell 1 rfl 2 rfl, S.cell 1 rfl 3 rfl, S.cell 1 rfl 4 rfl, S.cell 1 rfl 5 rfl, S.cell 1 rfl 6 rfl, S.cell 1 rfl 7 rfl⟩, S.cell 0 rfl 0 rfl, S.cell 0 rfl 1 rfl, S.cell 0 rfl 2 rfl, S.cell 0 rfl 3 rfl, S.cell 0 rfl 4 rfl⟩
  obtain ⟨⟨f0, f1, f2, f3, f4, f5, f6, f7⟩, d0, d1, d2, d3, d4⟩ := F.out w2 S2
  have hS2 := Lib.hid S2
  have hck1 := Lib.hid (hck.out w2)
  clear S0 S1 S2
  go_wp2_with (go_at_call 37; refine hck1.out.mono ?_)
  rintro e w3 ⟨rfl, S3⟩
  have S4 := hS2.out.pure S3
  rw [List.nil_append] at S4
  clear f0 f1 f2 f3 f4 f5 f6 f7 d0 d1 d2 d3 d4 S3
  obtain ⟨⟨f0, f1, f2, f3, f4, f5, f6, f7⟩, d0, d1, d2, d3, d4⟩ := F.out w3 S4
  have hS4 := Lib.hid S4
  clear S4
  have hall1 := Lib.hid (hall.out w3.drew)
  have hri' := Lib.hid (fun w5 (S : St w (FP w []) w5 [(g3, ndO lv (.slice B1 n1 c1) (.slice B2 n2 c2) (.slice B3 n3 c3) (.slice B4 n4 c4)), (g2, cfgO q)]) => hri.out w5 _ S)
  go_wp2_with fail
  go_region_with (first | (go_at_call 92; refine (hri'.out w5 S6).mono ?_; rintro e w6 ⟨rfl, S7⟩) | (go_at_call 93; refine hall1.out.mono ?_; rintro e w5 ⟨rfl, S5⟩; have S6 := hS4.out.drew.pure S5; rw [List.nil_append] at S6; obtain ⟨⟨h0, h1, h2, h3, h4, h5, h6, h7⟩, e0, e1, e2, e3, e4⟩ := F.out w5 S6))
  all_goals have S8 := S6.pure S7
  all_goals rw [List.nil_append] at S8
  all_goals clear hri' hall1
  all_goals
    obtain ⟨⟨i0, i1, i2, i3, i4, i5, i6, i7⟩, j0, j1, j2, j3, j4⟩ := F.out w6 S8
    have hS8 := Lib.hid S8
    clear f0 f1 f2 f3 f4 f5 f6 f7 d0 d1 d2 d3 d4 h0 h1 h2 h3 h4 h5 h6 h7 e0 e1 e2 e3 e4
    by_cases hz : lv = 0
    · have hw1 := Lib.hid (hwo.out w6 _ S8 hz)
      clear S5 S6 S7 S8
      subst hz
      go_wp2_with (first | (go_at_fn 94; refine hw1.out.mono ?_; rintro e w7 ⟨v, A, rfl, O, S9⟩; have S10 := hS8.out.pure S9; have y1 : w7.cell? ⟨g2, 1, none⟩ = some (.int .i64 (q.bytes : Nat)) := S10.swap.cell 1 rfl 1 rfl; obtain ⟨B, cc, rfl, _, _⟩ := O.slice; have hS10 := Lib.hid S10; clear S9 S10) |
        (at_builtin; refine wpl_appZ hS10.out O rfl _ _ 29 3 rfl Tryz.underlying29 .i64 Tryz.underlying3 info_byte .i64 (q.bytes - NL.length) rfl rfl ?_ ?_; (exact hbb.out)))
      intro v' w8 A' O' S11
      go_wp2
      go_ret2
      exact ⟨_, A', rfl, by rw [henc.out]; exact O', S11.left⟩
    · have hw1 := Lib.hid (hwi.out w6 _ S8 hz)
      clear S5 S6 S7 S8
      have hpos : 0 < lv := by omega
      go_wp2_with (first | (go_at_fn 95; refine hw1.out.mono ?_; rintro e w7 ⟨v, A, rfl, O, S9⟩; have S10 := hS8.out.pure S9; have y1 : w7.cell? ⟨g2, 1, none⟩ = some (.int .i64 (q.bytes : Nat)) := S10.swap.cell 1 rfl 1 rfl; obtain ⟨B, cc, rfl, _, _⟩ := O.slice; have hS10 := Lib.hid S10; clear S9 S10) |
        (at_builtin; refine wpl_appZ hS10.out O rfl _ _ 29 3 rfl Tryz.underlying29 .i64 Tryz.underlying3 info_byte .i64 (q.bytes - NL.length) rfl rfl ?_ ?_; (exact hbb.out)))
      intro v' w8 A' O' S11
      go_wp2
      go_ret2
      exact ⟨_, A', rfl, by rw [henc.out]; exact O', S11.left⟩
end
end Go.Proofs.YtnobknmhffaoeaaGreatDoor
