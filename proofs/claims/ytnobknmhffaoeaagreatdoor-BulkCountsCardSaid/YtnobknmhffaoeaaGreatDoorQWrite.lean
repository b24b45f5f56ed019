/- code.writeOuter: a leaf's bytes. code.writeInner: a node's bytes. -/
import Derived.Test.YtnobknmhffaoeaaGreatDoorQFan
set_option linter.unusedVariables false
set_option linter.unusedSimpArgs false
namespace Go.Proofs.YtnobknmhffaoeaaGreatDoor
open Go.RowKit
theorem i64_nat (n : Nat) (h : n ≤ 1000000) : IntKind.i64.wrap (n : Int) = (n : Int) := IntWalk.i64_in _ (by omega)
section
variable (w : World)
set_option maxRecDepth 100000 in
set_option maxHeartbeats 2000000 in
theorem code_writeOuter (q : Cn) (hq : q.Good) (nd : Nd) (kv pv bv prv : Value) (hr : NdRd w kv pv bv prv nd) (hl : nd.pairs.length ≤ q.leaf) (he : ∀ p ∈ nd.pairs, PairOk q.key q.val p) :
    Calls Tryz.prog 94 #[q.c.v, ndV nd.level kv pv bv prv] w fun e w' => ∃ v A, e = .returned v ∧ Own eByte 5 v (outerL q nd.pairs) A ∧ St w (FP w []) w' A := by
  have S0 := St.nil w
  obtain ⟨B1, c1, hv1, _, _⟩ := hr.kids.slice
  obtain ⟨B2, c2, hv2, _, _⟩ := hr.piv.slice
  obtain ⟨B3, c3, hv3, _, _⟩ := hr.buf.slice
  obtain ⟨B4, c4, hv4, _, _⟩ := hr.pairs.slice
  have hpr : Rd ePr w (.slice B4 nd.pairs.length c4) nd.pairs := hv4 ▸ hr.pairs
  have hl2 := hq.l2
  have hk2 := hq.k2
  have hvv := hq.v2
  have hfr := Lib.hid (fun w => code_front w 1 0 nd.pairs.length 0 (by omega) (by omega) (by omega) (by omega))
  have hpair := Lib.hid (fun w v bs A O H hl key val h1 h2 => code_pair w q.c q.key q.val rfl rfl v bs A O H hl key val h1 h2 (by omega) (by omega))
  have hout : Hid (outerL q nd.pairs = frontL 1 0 nd.pairs.length 0 ++ nd.pairs.flatMap fun p => pairL q.key q.val p.key p.val) := by show _ = _; rfl
  have hbnd : ∀ j, ((nd.pairs.take j).flatMap fun p => pairL q.key q.val p.key p.val).length ≤ 1000000 := by
    intro j
    rw [flat_each (m := 3 + q.key + q.val) (fun p hp => pair_len (he p (List.mem_of_mem_take hp)).1.2 (he p (List.mem_of_mem_take hp)).2), List.length_take]
    have : min j nd.pairs.length * (3 + q.key + q.val) ≤ 1024 * 323 := Nat.mul_le_mul (by omega) (by omega)
    omega
  replace hbnd := Lib.hid hbnd
  replace he := Lib.hid he
  replace hpr := Lib.hid hpr
  rw [hv1, hv2, hv3, hv4]
  clear hr hv1 hv2 hv3 hv4 hq hvv hk2
  generalize nd.kids.length = n1 at *
  generalize nd.pivots.length = n2 at *
  generalize nd.buf.length = n3 at *
  generalize hn : nd.pairs.length = n at *
  replace hn : Hid (n = nd.pairs.length) := hn.symm
  generalize nd.level = lv at *
  have hq3 : n ≤ 1024 := by omega
  have hrest : Hid (q.leaf ≤ 1024) := hl2
  clear hl2 hl
  unfold Cfg.v
  go_enter Tryz.func94, Tryz.ntmps94
  go_wp2_with (refine wpl_box S0 rfl _ _ rfl _ rfl ?_)
  intro g2 w1 _ S1
  replace S1 : St w (FP w []) w1 [(g2, cfgO q)] := S1.cast (by first | rfl | rw [← cfg_cells]; rfl)
  go_wp2_with (refine wpl_box S1 rfl _ _ rfl _ rfl ?_)
  intro g3 w2 _ S2
  have d4 := S2.cell 0 rfl 4 rfl
  have hS2 := Lib.hid S2
  have hfr1 := Lib.hid (hfr.out w2)
  clear S0 S1 S2
  go_wp2_with (go_at_call 108; refine hfr1.out.mono ?_)
  rintro e w3 ⟨bv, A, rfl, O3, S3⟩
  have S4 : St w (FP w []) w3 ([(g3, ndO lv (.slice B1 n1 c1) (.slice B2 n2 c2) (.slice B3 n3 c3) (.slice B4 n c4)), (g2, cfgO q)] ++ A) := (hS2.out.pure S3).swap
  have d4 := S4.cell 0 rfl 4 rfl
  go_wp2
  go_loopw [5, 15] (fun v5 vj wr => ∃ (j : Nat) (bv : Value) (bs : List UInt8) (A : Blocks), vj = .int .i64 j ∧ v5 = bv ∧ j ≤ n ∧ Hid (bs = frontL 1 0 n 0 ++ (nd.pairs.take j).flatMap fun p => pairL q.key q.val p.key p.val) ∧ Own eByte 5 bv bs A ∧
      Hid (St w (FP w []) wr ([(g3, ndO lv (.slice B1 n1 c1) (.slice B2 n2 c2) (.slice B3 n3 c3) (.slice B4 n c4)), (g2, cfgO q)] ++ A))) (fun _ vj _ => n - (intOf vj).toNat)
  case atStart => exact ⟨0, bv, _, A, rfl, rfl, by omega, by show _ = _; simp, O3, S4⟩
  case round =>
    obtain ⟨j, bv, bs, A, rfl, rfl, hj, hbs, O, hS⟩ := hrel
    by_cases hlt : j < n
    · have g1 := List.getElem?_eq_getElem (show j < nd.pairs.length by rw [← hn.out]; exact hlt)
      generalize nd.pairs[j]'(by rw [← hn.out]; exact hlt) = x at g1
      have hx := Lib.hid (he.out x (List.mem_of_getElem? g1))
      obtain ⟨b, off, rfl, hc⟩ := (hpr.out.st hS.out).get g1
      have e0 : wr.cell? ⟨b, off + j * 2, none⟩ = some (.string x.key) := hc 0 _ rfl
      have e1 : wr.cell? ⟨b, off + j * 2 + 1, none⟩ = some (.string x.val) := hc 1 _ rfl
      have htk : Hid (nd.pairs.take (j + 1) = nd.pairs.take j ++ [x]) := by show _ = _; rw [List.take_add_one, g1]; rfl
      clear g1 hc d4
      go_wp2_with (refine wpl_alloc hS.out rfl _ rfl _ (fun w => by first | exact Tryz.zeroValue40 w | kernel_rfl) ?_)
      intro gp w4 _ S5
      go_wp2_with (refine wpl_store rfl _ _ _ rfl _ _ rfl _ rfl Tryz.sizeOf40 S5 0 _ _ rfl ?_ ?_ ?_; (show 0 + 2 ≤ 2; omega); (simp [Act.eval, Value.cells, Value.oneCell']))
      intro w6 S6 _
      replace S6 : St w (FP w []) w6 ([(gp, C 40 [.string x.key, .string x.val]), (g3, ndO lv (.slice B1 n1 c1) (.slice B2 n2 c2) (.slice B3 n3 c3) (.slice (some ⟨b, off, none⟩) n c4)), (g2, cfgO q)] ++ A) := S6
      have p0 := S6.cell 0 rfl 0 rfl
      have p1 := S6.cell 0 rfl 1 rfl
      have f0 : w6.cell? ⟨g2, 0, none⟩ = some (.int .i64 (q.blocks : Nat)) := S6.cell 2 rfl 0 rfl
      have f1 : w6.cell? ⟨g2, 1, none⟩ = some (.int .i64 (q.bytes : Nat)) := S6.cell 2 rfl 1 rfl
      have f2 : w6.cell? ⟨g2, 2, none⟩ = some (.int .i64 (q.frames : Nat)) := S6.cell 2 rfl 2 rfl
      have f3 : w6.cell? ⟨g2, 3, none⟩ = some (.int .i64 (q.fan : Nat)) := S6.cell 2 rfl 3 rfl
      have f4 : w6.cell? ⟨g2, 4, none⟩ = some (.int .i64 (q.buffer : Nat)) := S6.cell 2 rfl 4 rfl
      have f5 : w6.cell? ⟨g2, 5, none⟩ = some (.int .i64 (q.leaf : Nat)) := S6.cell 2 rfl 5 rfl
      have f6 : w6.cell? ⟨g2, 6, none⟩ = some (.int .i64 (q.key : Nat)) := S6.cell 2 rfl 6 rfl
      have f7 : w6.cell? ⟨g2, 7, none⟩ = some (.int .i64 (q.val : Nat)) := S6.cell 2 rfl 7 rfl
      have hS6 := Lib.hid S6.swap
      have hbl : bs.length ≤ 900000000 := by
        rw [hbs.out, List.length_append, front_len]; have := hbnd.out j; omega
      have hp1 := Lib.hid (hpair.out w6 _ bs A O hS6.out.hc.left hbl x.key x.val hx.out.1.2 hx.out.2)
      clear S5 S6 hbl
      go_wp2_with (go_at_call 109; refine hp1.out.mono ?_)
      rintro e w7 ⟨r, A2, rfl, O2, S7⟩
      have S8 := St.right (A := [_]) ((hS6.out.call S7).swap)
      go_wp2
      go_roundw
      case rel =>
        refine ⟨j + 1, _, _, A2, by simp, rfl, by omega, ?_, O2, S8⟩
        show _ = _
        rw [hbs.out, htk.out, List.flatMap_append, List.append_assoc]
        simp
      case measure => simp [intOf]; omega
    · go_wp2
      go_ret
      refine ⟨_, A, rfl, ?_, St.right (A := [_, _]) hS.out⟩
      have hje : j = nd.pairs.length := by rw [← hn.out]; omega
      rw [hbs.out, hje, List.take_length] at O
      rw [hout.out]
      exact O
end
end Go.Proofs.YtnobknmhffaoeaaGreatDoor
namespace Go.Proofs.YtnobknmhffaoeaaGreatDoor
open Go.RowKit
theorem kids_len (m : Nat) (l : List Nat) : ((List.range m).flatMap fun i => be 4 (l.getD i 0)).length = m * 4 := by
  rw [flat_each (m := 4) (fun _ _ => be_len _ _), List.length_range]
theorem piv_len {ck : Nat} (m : Nat) (l : List ByteArray) (h : ∀ p ∈ l, KeyOk ck p) : ((List.range m).flatMap fun i => be 1 (l.getD i ByteArray.empty).size ++ slotL (l.getD i ByteArray.empty) ck).length = m * (1 + ck) := by
  rw [flat_each (m := 1 + ck) (fun i _ => ?_), List.length_range]
  rw [List.length_append, be_len, slot_len]
  rw [List.getD_eq_getElem?_getD]
  cases hi : l[i]? with
  | none => simp
  | some p => exact (h p (List.mem_of_getElem? hi)).2
theorem inner_len {q : Cn} (hq : q.Good) {nd : Nd} (h : ∀ p ∈ nd.pivots, KeyOk q.key p) : (innerL q nd).length = 8 + 4 * q.fan + (q.fan - 1) * (1 + q.key) := by
  unfold innerL kidsL pivL
  rw [List.length_append, List.length_append, front_len, kids_len, piv_len _ _ h]; omega
section
variable (w : World)
set_option maxRecDepth 100000 in
set_option maxHeartbeats 2000000 in
theorem code_writeInner (q : Cn) (hq : q.Good) (nd : Nd) (kv pv bv prv : Value) (hr : NdRd w kv pv bv prv nd) (hi : InnerOk q.key q.fan q.blocks nd) :
    Calls Tryz.prog 95 #[q.c.v, ndV nd.level kv pv bv prv] w fun e w' => ∃ v A, e = .returned v ∧ Own eByte 5 v (innerL q nd) A ∧ St w (FP w []) w' A := by
  have S0 := St.nil w
  have hbuf := hi.buf
  have hkf := hi.k2
  have hpl := hi.plen
  have hf2 := hq.f2
  have hf1 := hq.f1
  have hk2 := hq.k2
  have hlv := hi.l2
  have hb2 := hq.b2
  obtain ⟨B1, c1, hv1, _, _⟩ := hr.kids.slice
  obtain ⟨B2, c2, hv2, _, _⟩ := hr.piv.slice
  obtain ⟨B3, c3, hv3⟩ := Rd.zero (hbuf ▸ hr.buf)
  obtain ⟨B4, c4, hv4, _, _⟩ := hr.pairs.slice
  have hkr : Rd (eNat .u32) w (.slice B1 nd.kids.length c1) nd.kids := hv1 ▸ hr.kids
  have hpr : Rd eStr w (.slice B2 nd.pivots.length c2) nd.pivots := hv2 ▸ hr.piv
  have hfr := Lib.hid (fun w => code_front w 2 nd.level nd.kids.length 0 (by omega) (by omega) (by omega) (by omega))
  have hnum4 := Lib.hid (fun w v bs A O H hl n hn => code_num w v bs A O H hl 4 n (by omega) hn)
  have hnum1 := Lib.hid (fun w v bs A O H hl n hn => code_num w v bs A O H hl 1 n (by omega) hn)
  have htext := Lib.hid (fun w v bs A O H hl x hx => code_text w v bs A O H hl x q.key hx (by omega))
  have hout : Hid (innerL q nd = frontL 2 nd.level nd.kids.length 0 ++ (List.range q.fan).flatMap (fun i => be 4 (nd.kids.getD i 0)) ++ (List.range (q.fan - 1)).flatMap fun i => be 1 (nd.pivots.getD i ByteArray.empty).size ++ slotL (nd.pivots.getD i ByteArray.empty) q.key) := by show _ = _; rfl
  have hkb : Hid (∀ i, nd.kids.getD i 0 ≤ 65536) := by
    intro i
    rw [List.getD_eq_getElem?_getD]
    cases hh : nd.kids[i]? with
    | none => simp
    | some k => have := (hi.kin k (List.mem_of_getElem? hh)).2; simp; omega
  have hpe : Hid (∀ i, (nd.pivots.getD i ByteArray.empty).size ≤ q.key) := by
    intro i
    rw [List.getD_eq_getElem?_getD]
    cases hh : nd.pivots[i]? with
    | none => simp
    | some k => exact (hi.peach k (List.mem_of_getElem? hh)).2
  have hpl2 := Lib.hid (fun m => piv_len (ck := q.key) m nd.pivots hi.peach)
  replace hkr := Lib.hid hkr
  replace hpr := Lib.hid hpr
  rw [hv1, hv2, hv3, hv4]
  clear hr hv1 hv2 hv3 hv4 hq hbuf hi hb2
  generalize hnk : nd.kids.length = nk at *
  generalize hnp : nd.pivots.length = np at *
  generalize nd.pairs.length = n4 at *
  generalize nd.level = lv at *
  replace hnk : Hid (nk = nd.kids.length) := hnk.symm
  replace hnp : Hid (np = nd.pivots.length) := hnp.symm
  have hfan : Hid (8 ≤ q.fan ∧ q.fan ≤ 64 ∧ q.key ≤ 64) := by show _ ∧ _; omega
  unfold Cfg.v
  go_enter Tryz.func95, Tryz.ntmps95
  go_wp2_with (refine wpl_box S0 rfl _ _ rfl _ rfl ?_)
  intro g2 w1 _ S1
  replace S1 : St w (FP w []) w1 [(g2, cfgO q)] := S1.cast (by first | rfl | rw [← cfg_cells]; rfl)
  go_wp2_with (refine wpl_box S1 rfl _ _ rfl _ rfl ?_)
  intro g3 w2 _ S2
  have d0 := S2.cell 0 rfl 0 rfl
  have d1 := S2.cell 0 rfl 1 rfl
  have d3 := S2.cell 0 rfl 3 rfl
  have hS2 := Lib.hid S2
  have hfr1 := Lib.hid (hfr.out w2)
  clear S0 S1 S2
  go_wp2_with (go_at_call 108; refine hfr1.out.mono ?_)
  rintro e w3 ⟨bv, A, rfl, O3, S3⟩
  have S4 : St w (FP w []) w3 ([(g3, ndO lv (.slice B1 nk c1) (.slice B2 np c2) (.slice B3 0 c3) (.slice B4 n4 c4)), (g2, cfgO q)] ++ A) := (hS2.out.pure S3).swap
  have f3 : w3.cell? ⟨g2, 3, none⟩ = some (.int .i64 (q.fan : Nat)) := S4.cell 1 rfl 3 rfl
  clear d0 d1 d3
  go_wp2
  go_loopw [5, 24] (fun v5 vj wr => ∃ (j : Nat) (bv : Value) (bs : List UInt8) (A : Blocks), vj = .int .i64 j ∧ v5 = bv ∧ j ≤ q.fan ∧ Hid (bs = frontL 2 lv nk 0 ++ (List.range j).flatMap fun i => be 4 (nd.kids.getD i 0)) ∧ Own eByte 5 bv bs A ∧
      Hid (St w (FP w []) wr ([(g3, ndO lv (.slice B1 nk c1) (.slice B2 np c2) (.slice B3 0 c3) (.slice B4 n4 c4)), (g2, cfgO q)] ++ A))) (fun _ vj _ => q.fan - (intOf vj).toNat)
  case atStart => exact ⟨0, bv, _, A, rfl, rfl, by omega, by show _ = _; simp, O3, S4⟩
  case round =>
    obtain ⟨j, bv, bs, A, rfl, rfl, hj, hbs, O, hS⟩ := hrel
    have d1 := hS.out.cell 0 rfl 1 rfl
    have hbl : bs.length ≤ 1000000000 := by
      rw [hbs.out, List.length_append, front_len, kids_len]; omega
    by_cases hlt : j < q.fan
    · have hkj := hkb.out j
      have hnum := Lib.hid (fun (H : HC wr A) => hnum4.out wr _ bs A O H hbl (nd.kids.getD j 0) (by omega))
      have hstep : Hid (bs ++ be 4 (nd.kids.getD j 0) = frontL 2 lv nk 0 ++ (List.range (j + 1)).flatMap fun i => be 4 (nd.kids.getD i 0)) := by
        show _ = _
        rw [hbs.out, List.range_succ, List.flatMap_append, List.append_assoc]; simp
      by_cases hjk : j < nk
      · have g1 := List.getElem?_eq_getElem (show j < nd.kids.length by rw [← hnk.out]; exact hjk)
        have hd : nd.kids.getD j 0 = nd.kids[j]'(by rw [← hnk.out]; exact hjk) := by rw [List.getD_eq_getElem?_getD, g1]; rfl
        rw [← hd] at g1
        obtain ⟨b, off, rfl, hc⟩ := (hkr.out.st hS.out).get g1
        generalize nd.kids.getD j 0 = k at *
        have e0 : wr.cell? ⟨b, off + j, none⟩ = some (.int .u32 k) := by have := hc 0 _ rfl; simpa [eNat] using this
        have k1 : IntKind.u64.wrap (k : Int) = (k : Int) := u64_wrap k (by omega)
        clear g1 hd hc hkj hbl
        have hnum1' := Lib.hid (hnum.out hS.out.swap.hc.left)
        go_wp2_with (go_at_call 110; refine hnum1'.out.mono ?_)
        rintro e w4 ⟨r, A2, rfl, O2, S5⟩
        go_wp2
        go_roundw
        case rel => exact ⟨j + 1, _, _, A2, by simp, rfl, by omega, hstep.out, O2, (hS.out.swap.call S5).swap⟩
        case measure => simp [intOf]; omega
      · have hd : nd.kids.getD j 0 = 0 := by rw [List.getD_eq_getElem?_getD, List.getElem?_eq_none (by rw [← hnk.out]; omega)]; rfl
        rw [hd] at hnum hstep
        clear hd hkj hbl
        have hnum1' := Lib.hid (hnum.out hS.out.swap.hc.left)
        go_wp2_with (go_at_call 110; refine hnum1'.out.mono ?_)
        rintro e w4 ⟨r, A2, rfl, O2, S5⟩
        go_wp2
        go_roundw
        case rel => exact ⟨j + 1, _, _, A2, by simp, rfl, by omega, hstep.out, O2, (hS.out.swap.call S5).swap⟩
        case measure => simp [intOf]; omega
    · have hje : j = q.fan := by omega
      have f3' : wr.cell? ⟨g2, 3, none⟩ = some (.int .i64 (q.fan : Nat)) := hS.out.cell 1 rfl 3 rfl
      have O' := O
      rw [hbs.out, hje] at O'
      have hS1 := Lib.hid hS.out
      clear O hS hbs hbl hje hj d1
      have kw : IntKind.i64.wrap ((q.fan : Int) - 1) = (q.fan : Int) - 1 := IntWalk.i64_in _ (by omega)
      have hL1 : Hid ((frontL 2 lv nk 0 ++ (List.range q.fan).flatMap fun i => be 4 (nd.kids.getD i 0)).length ≤ 1000) := by
        show _ ≤ _
        rw [List.length_append, front_len, kids_len]; omega
      generalize hgL : frontL 2 lv nk 0 ++ (List.range q.fan).flatMap (fun i => be 4 (nd.kids.getD i 0)) = L1 at *
      replace hgL := Lib.hid hgL
      go_wp2
      go_loopw [5, 45] (fun v5 vj wr => ∃ (j : Nat) (bv : Value) (bs : List UInt8) (A : Blocks), vj = .int .i64 j ∧ v5 = bv ∧ j + 1 ≤ q.fan ∧ Hid (bs = L1 ++ (List.range j).flatMap fun i => be 1 (nd.pivots.getD i ByteArray.empty).size ++ slotL (nd.pivots.getD i ByteArray.empty) q.key) ∧ Own eByte 5 bv bs A ∧
        Hid (St w (FP w []) wr ([(g3, ndO lv (.slice B1 nk c1) (.slice B2 np c2) (.slice B3 0 c3) (.slice B4 n4 c4)), (g2, cfgO q)] ++ A))) (fun _ vj _ => q.fan - (intOf vj).toNat)
      case atStart => exact ⟨0, _, _, A, rfl, rfl, by omega, by show _ = _; simp, O', hS1.out⟩
      case round =>
        obtain ⟨j, bv, bs, A, rfl, rfl, hj, hbs, O, hS⟩ := hrel
        have d2 := hS.out.cell 0 rfl 2 rfl
        have d3 := hS.out.cell 0 rfl 3 rfl
        have f6 : wr.cell? ⟨g2, 6, none⟩ = some (.int .i64 (q.key : Nat)) := hS.out.cell 1 rfl 6 rfl
        have hbl : bs.length ≤ 100000 := by
          rw [hbs.out, List.length_append, hpl2.out]
          have := hL1.out
          have : j * (1 + q.key) ≤ 64 * 65 := Nat.mul_le_mul (by omega) (by omega)
          omega
        by_cases hlt : j + 1 < q.fan
        · have hpj := Lib.hid (hpe.out j)
          have hstep : Hid (bs ++ be 1 (nd.pivots.getD j ByteArray.empty).size ++ bytesL (nd.pivots.getD j ByteArray.empty) ++ List.replicate (q.key - (nd.pivots.getD j ByteArray.empty).size) 0 = L1 ++ (List.range (j + 1)).flatMap fun i => be 1 (nd.pivots.getD i ByteArray.empty).size ++ slotL (nd.pivots.getD i ByteArray.empty) q.key) := by
            show _ = _
            rw [hbs.out, List.range_succ, List.flatMap_append, List.append_assoc, List.append_assoc, List.append_assoc]; simp [slotL]
          by_cases hjk : j < np
          · have g1 := List.getElem?_eq_getElem (show j < nd.pivots.length by rw [← hnp.out]; exact hjk)
            have hd : nd.pivots.getD j ByteArray.empty = nd.pivots[j]'(by rw [← hnp.out]; exact hjk) := by rw [List.getD_eq_getElem?_getD, g1]; rfl
            rw [← hd] at g1
            obtain ⟨b, off, rfl, hc⟩ := (hpr.out.st hS.out).get g1
            generalize nd.pivots.getD j ByteArray.empty = p at *
            have e0 : wr.cell? ⟨b, off + j, none⟩ = some (.string p) := by have := hc 0 _ rfl; simpa [eStr] using this
            have hps := hpj.out
            have k1 : IntKind.u64.wrap (p.size : Int) = (p.size : Int) := u64_wrap p.size (by omega)
            have n1 := Lib.hid (hnum1.out wr.drew _ bs A O hS.out.swap.drew.hc.left (by omega) p.size (by omega))
            have t1 := Lib.hid (fun w v A O H => htext.out w v (bs ++ be 1 p.size) A O H (by rw [List.length_append, be_len]; omega) p hps)
            clear g1 hd hc hbl hps
            go_wp2_with fail
            go_region_with (first | ((go_at_call 111; refine (t1.out w4 _ _ O4 S4.hc.left).mono ?_; rintro e w5 ⟨r5, A5, rfl, O5, S5⟩; replace S5 := S4.call S5)) | ((go_at_call 110; refine n1.out.mono ?_; rintro e w4 ⟨r4, A4, rfl, O4, S4⟩; replace S4 := hS.out.swap.drew.call S4; have f6' := S4.swap.cell 1 rfl 6 rfl)))
            all_goals go_wp2
            all_goals refine ⟨⟨j + 1, _, _, A5, by simp, rfl, by omega, hstep.out, O5, S5.swap⟩, ?_⟩
            all_goals (simp [intOf]; omega)
          · have hd : nd.pivots.getD j ByteArray.empty = ⟨#[]⟩ := by rw [List.getD_eq_getElem?_getD, List.getElem?_eq_none (by rw [← hnp.out]; omega)]; rfl
            rw [hd] at hstep hpj
            have hps := hpj.out
            have n1 := Lib.hid (hnum1.out wr.drew _ bs A O hS.out.swap.drew.hc.left (by omega) 0 (by omega))
            have t1 := Lib.hid (fun w v A O H => htext.out w v (bs ++ be 1 0) A O H (by rw [List.length_append, be_len]; omega) ⟨#[]⟩ hps)
            clear hd hbl hps
            go_wp2_with fail
            go_region_with (first | ((go_at_call 111; refine (t1.out w4 _ _ O4 S4.hc.left).mono ?_; rintro e w5 ⟨r5, A5, rfl, O5, S5⟩; replace S5 := S4.call S5)) | ((go_at_call 110; refine n1.out.mono ?_; rintro e w4 ⟨r4, A4, rfl, O4, S4⟩; replace S4 := hS.out.swap.drew.call S4; have f6' := S4.swap.cell 1 rfl 6 rfl)))
            all_goals go_wp2
            all_goals refine ⟨⟨j + 1, _, _, A5, by simp, rfl, by omega, hstep.out, O5, S5.swap⟩, ?_⟩
            all_goals (simp [intOf]; omega)
        · have hje : j = q.fan - 1 := by omega
          have O' := O
          rw [hbs.out, hje] at O'
          rw [← hout.out] at O'
          have hS1 := Lib.hid hS.out
          clear O hS hbs hbl hje d2
          go_wp2
          go_loopw [5, 71] (fun v5 vj w9 => Own eByte 5 v5 (innerL q nd) A ∧ vj = .int .i64 0 ∧ w9 = wr) (fun _ vj _ => 0)
          case atStart => exact ⟨O', rfl, rfl⟩
          case round =>
            obtain ⟨O9, rfl, rfl⟩ := hrel
            go_wp2
            go_ret
            exact ⟨_, A, rfl, O9, St.right (A := [_, _]) hS1.out⟩
end
end Go.Proofs.YtnobknmhffaoeaaGreatDoor
