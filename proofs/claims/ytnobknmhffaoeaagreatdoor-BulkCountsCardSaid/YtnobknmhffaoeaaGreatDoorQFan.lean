/- node.kids, of kids that rise; slices.Compact of what rises. fan.Right, of pivots that rise. node.inner and node.Right, of nodes that are right. -/
import Derived.Test.YtnobknmhffaoeaaGreatDoorQAsk
set_option linter.unusedVariables false
set_option linter.unusedSimpArgs false
namespace Go.Proofs.YtnobknmhffaoeaaGreatDoor
open Go.RowKit
section
variable (w : World)
set_option maxRecDepth 100000 in
set_option maxHeartbeats 2000000 in
theorem compact_up (v : Value) (xs : List Nat) (hr : Rd (eNat .u32) w v xs) (hup : xs.Pairwise (· < ·)) (hl : xs.length ≤ 100000) :
    Calls Tryz.prog 146 #[v] w fun e w' => e = .returned v ∧ ∃ q, w' = w.drewN q := by
  obtain ⟨B, cc, rfl, h1, h2⟩ := hr.slice
  replace hr := Lib.hid hr
  replace hup := Lib.hid hup
  obtain ⟨n, hn⟩ : ∃ n, n = xs.length := ⟨_, rfl⟩
  rw [← hn] at hl h1 ⊢
  replace hn := Lib.hid hn
  clear h1 h2
  by_cases h2 : n < 2
  · go_enter Tryz.func146, Tryz.ntmps146
    go_wp2
    go_ret
    exact ⟨rfl, 0, rfl⟩
  · go_enter Tryz.func146, Tryz.ntmps146
    go_wp2
    go_loopw [3] (fun vj wr => ∃ (j q : Nat), vj = .int .i64 j ∧ 1 ≤ j ∧ j ≤ n ∧ Hid (wr = w.drewN q)) (fun vj _ => n - (intOf vj).toNat)
    case atStart => exact ⟨1, 0, rfl, by omega, by omega, rfl⟩
    case round =>
      obtain ⟨j, q, rfl, hj1, hj, hwr⟩ := hrel
      by_cases hlt : j < n
      · have g1 := List.getElem?_eq_getElem (show j < xs.length by rw [← hn.out]; exact hlt)
        have g2 := List.getElem?_eq_getElem (show j - 1 < xs.length by rw [← hn.out]; omega)
        have hxy := (List.pairwise_iff_getElem.1 hup.out) (j - 1) j (by rw [← hn.out]; omega) (by rw [← hn.out]; exact hlt) (by omega)
        generalize xs[j]'(by rw [← hn.out]; exact hlt) = x at g1 hxy
        generalize xs[j - 1]'(by rw [← hn.out]; omega) = y at g2 hxy
        obtain ⟨b, off, rfl, hc1⟩ := hr.out.get g1
        obtain ⟨b', off', he, hc2⟩ := hr.out.get g2
        injection he with he; injection he with e1 e2; subst e1; subst e2
        have c1 : wr.cell? ⟨b, off + j, none⟩ = some (.int .u32 x) := by rw [hwr.out]; have := hc1 0 _ rfl; simpa [eNat] using this
        have c2 : wr.cell? ⟨b, off + (j - 1), none⟩ = some (.int .u32 y) := by rw [hwr.out]; have := hc2 0 _ rfl; simpa [eNat] using this
        have hj3 : ((j : Int) - 1).toNat = j - 1 := by omega
        have hj4 : (0 : Int) ≤ (j : Int) - 1 := by omega
        have hj5 : (j : Int) - 1 < (n : Int) := by omega
        have hne : ((x : Int) == (y : Int)) = false := by rw [beq_eq_false_iff_ne]; omega
        clear g1 g2 hc1 hc2
        go_wp2
        go_quiet (fail)
        go_wp2
        go_roundw
        case rel => exact ⟨j + 1, q + nq, by simp, by omega, by omega, by show _ = _; rw [hwr.out, drewN_two]⟩
        case measure => simp [intOf]; omega
      · go_wp2
        go_ret
        exact ⟨rfl, q, hwr.out⟩
set_option maxRecDepth 100000 in
set_option maxHeartbeats 4000000 in
theorem node_kids {N : Nat} (hs : SortU32 N) (q : Cn) (hq : q.Good) (kv : Value) (l : List Nat) (hr : Rd (eNat .u32) w kv l) (hN : l.length ≤ N) (hN2 : N ≤ 100000) (h1 : 1 ≤ l.length) (hf : l.length ≤ q.fan) (hup : l.Pairwise (· < ·)) (hin : ∀ k ∈ l, 1 ≤ k ∧ k < q.blocks) :
    Calls Tryz.prog 125 #[q.c.v, kv] w fun e w' => e = .returned (.bool true) ∧ St w (FP w []) w' [] := by
  have S0 := St.nil w
  obtain ⟨B, cc, rfl, _, _⟩ := hr.slice
  have hcl := Lib.hid (fun w hr => clone_u32 w (.slice B l.length cc) l hr (by omega))
  have hr' := Lib.hid hr
  have hs' := Lib.hid hs
  have hup' := Lib.hid hup
  have hin' := Lib.hid hin
  have hcu := Lib.hid (fun w v xs hr hup hl => compact_up w v xs hr hup hl)
  have hnn : Hid (∀ m, m = l.length → m = l.length) := by intro m h; exact h
  clear hr hs hup hin
  generalize hn : l.length = n at *
  replace hn : Hid (n = l.length) := hn.symm
  unfold Cfg.v
  go_enter Tryz.func125, Tryz.ntmps125
  go_wp2_with (refine wpl_box S0 rfl _ _ rfl _ rfl ?_)
  intro g w1 _ S1
  replace S1 : St w (FP w []) w1 [(g, cfgO q)] := S1.cast (by first | rfl | rw [← cfg_cells]; rfl)
  have hcl1 := Lib.hid (hcl.out w1 (hr'.out.st S1))
  go_wp2_with (go_at_call 145; refine hcl1.out.mono ?_)
  rintro e w2 ⟨v, L2, rfl, O2, S2⟩
  have S3 := S1.pure S2
  have hso := Lib.hid (hs'.out w2 v l L2 O2 S2.hc (by rw [← hn.out]; exact hN))
  go_wp2_with (go_at_call 120; refine hso.out.mono ?_)
  rintro e w3 ⟨rfl, ys, L3, hp, hsrt, O3, S4⟩
  have S5 := S3.call S4
  have hlen : ys.length = n := by rw [hp.length_eq, ← hn.out]
  have hlt : ys.Pairwise (· < ·) := by
    have hnd : ys.Nodup := hp.nodup_iff.2 (hup'.out.imp (fun h => Nat.ne_of_lt h))
    exact (hsrt.and hnd).imp (fun ⟨a, b⟩ => Nat.lt_of_le_of_ne a b)
  have hmem : ∀ k ∈ ys, 1 ≤ k ∧ k < q.blocks := fun k hk => hin'.out k (hp.mem_iff.1 hk)
  have hrd := O3.rd S5.hc.left
  obtain ⟨B3, c3, rfl, hk1, hk2⟩ := O3.slice
  have g1 := List.getElem?_eq_getElem (show 0 < ys.length by rw [hlen]; omega)
  have g2 := List.getElem?_eq_getElem (show n - 1 < ys.length by rw [hlen]; omega)
  have m1 := hmem _ (List.mem_of_getElem? g1)
  have m2 := hmem _ (List.mem_of_getElem? g2)
  generalize ys[0]'(by rw [hlen]; omega) = x at g1 m1
  generalize ys[n - 1]'(by rw [hlen]; omega) = y at g2 m2
  obtain ⟨b, off, rfl, hc1⟩ := hrd.get g1
  obtain ⟨b', off', he, hc2⟩ := hrd.get g2
  injection he with he; injection he with e1 e2; subst e1; subst e2
  rw [hlen]
  have c1 : w3.cell? ⟨b, off, none⟩ = some (.int .u32 x) := by have := hc1 0 _ rfl; simpa [eNat] using this
  have c2 : w3.cell? ⟨b, off + (n - 1), none⟩ = some (.int .u32 y) := by have := hc2 0 _ rfl; simpa [eNat] using this
  have d3 : w3.cell? ⟨g, 3, none⟩ = some (.int .i64 (q.fan : Nat)) := S5.right.cell 0 rfl 3 rfl
  have d0 : w3.cell? ⟨g, 0, none⟩ = some (.int .i64 (q.blocks : Nat)) := S5.right.cell 0 rfl 0 rfl
  have k1 : ((n : Int) - 1).toNat = n - 1 := by omega
  have k2 : (0 : Int) ≤ (n : Int) - 1 := by omega
  have k3 : (n : Int) - 1 < (n : Int) := by omega
  have k4 : ((x : Int) == 0) = false := by rw [beq_eq_false_iff_ne]; omega
  have k5 : decide ((q.blocks : Int) ≤ (y : Int)) = false := by simp; omega
  have k6 : decide ((q.fan : Int) < (n : Int)) = false := by simp; omega
  have k5' : decide (q.blocks ≤ y) = false := by simp; omega
  have k6' : decide (q.fan < n) = false := by simp; omega
  have k10 : IntKind.i64.wrap ((n : Int) - 1) = (n : Int) - 1 := IntWalk.i64_in _ (by omega)
  have k7 : decide ((n : Int) < 1) = false := by simp; omega
  have k8 : 0 < n := by omega
  have hb2 := hq.b2
  have k9 : IntKind.i64.wrap (y : Int) = (y : Int) := IntWalk.i64_in _ (by omega)
  have hcu1 := Lib.hid (fun q => hcu.out (w3.drewN q) (.slice (some ⟨b, off, none⟩) n c3) ys (hlen ▸ hrd) hlt (by omega))
  have hS5 := Lib.hid S5
  clear S0 S1 S2 S3 S4 S5 hcl1 hso hp hsrt hlt hmem hrd hc1 hc2 g1 g2 O2 O3 hk1 hk2 hq
  go_wp2
  go_quiet (fail)
  go_wp2_with (go_at_call 146; refine (hcu1.out _).mono ?_; rintro e w4 ⟨rfl, q2, rfl⟩)
  go_ret
  have S9 := (hS5.out.right (A := L3)).drewN (nq + q2)
  exact ⟨by simp, St.right (A := [(g, cfgO q)]) (B := []) S9⟩
end
end Go.Proofs.YtnobknmhffaoeaaGreatDoor
namespace Go.Proofs.YtnobknmhffaoeaaGreatDoor
open Go.RowKit
section
variable (w : World)
set_option maxRecDepth 100000 in
set_option maxHeartbeats 4000000 in
theorem fan_right (v : Value) (l : List ByteArray) (hr : Rd eStr w v l) (hl : l.length ≤ 100000) (hup : Rise l) (hne : ∀ p ∈ l, 1 ≤ p.size) :
    Calls Tryz.prog 126 #[v, spanV] w fun e w' => e = .returned (.bool true) ∧ St w (FP w []) w' [] := by
  have S0 := St.nil w
  have hcmp := Lib.hid (fun w a b => lex_compare w a b)
  have hin := Lib.hid (fun w a => lex_in w a)
  obtain ⟨B, cc, rfl, h1, h2⟩ := hr.slice
  replace hr := Lib.hid hr
  replace hup := Lib.hid hup
  replace hne := Lib.hid hne
  generalize hn : l.length = n at *
  replace hn : Hid (n = l.length) := hn.symm
  clear h1 h2
  go_enter Tryz.func126, Tryz.ntmps126
  go_wp2_with (refine wpl_box S0 rfl _ _ rfl _ rfl ?_)
  intro g w1 _ S1
  go_wp2
  go_loopw [9] (fun vj wr => ∃ (j : Nat), vj = .int .i64 j ∧ j ≤ n ∧ Hid (St w (FP w []) wr [(g, spanO)])) (fun vj _ => n - (intOf vj).toNat)
  case atStart => exact ⟨0, rfl, by omega, S1⟩
  case round =>
    obtain ⟨j, rfl, hj, hS⟩ := hrel
    by_cases hlt : j < n
    · have g1 := List.getElem?_eq_getElem (show j < l.length by rw [← hn.out]; exact hlt)
      generalize l[j]'(by rw [← hn.out]; exact hlt) = p at g1
      have hp := hne.out p (List.mem_of_getElem? g1)
      have hpl : p.toList ≠ [] := by
        intro e; rw [kb_toList] at e
        have := kb_len p; rw [e] at this; simp at this; omega
      have k1 : (p.toList == (⟨#[]⟩ : ByteArray).toList) = false := by
        rw [kb_toList ⟨#[]⟩]
        show (p.toList == []) = false
        cases h : p.toList with
        | nil => exact absurd h hpl
        | cons a l => rfl
      have k2 : (p.toList == []) = false := by
        cases h : p.toList with
        | nil => exact absurd h hpl
        | cons a l => rfl
      obtain ⟨b, off, rfl, hc1⟩ := (hr.out.st (St.right (A := [(g, spanO)]) (B := []) hS.out)).get g1
      have c1 : wr.cell? ⟨b, off + j, none⟩ = some (.string p) := by have := hc1 0 _ rfl; simpa [eStr] using this
      have s0 := hS.out.cell 0 rfl 0 rfl
      have s1 := hS.out.cell 0 rfl 1 rfl
      have s2 := hS.out.cell 0 rfl 2 rfl
      have hin1 := Lib.hid (hin.out wr p)
      clear hp hpl
      go_wp2_with (go_at_call 124; refine hin1.out.mono ?_)
      rintro e w2 ⟨rfl, S2⟩
      have S3 := hS.out.pure S2
      rw [List.nil_append] at S3
      have t0 := S3.cell 0 rfl 0 rfl
      have hS3 := Lib.hid S3
      clear S2 S3 c1 hc1 s0 s1 s2
      by_cases hj0 : 0 < j
      · have g2 := List.getElem?_eq_getElem (show j - 1 < l.length by rw [← hn.out]; omega)
        generalize l[j - 1]'(by rw [← hn.out]; omega) = y at g2
        have hneg : kcmp y p < 0 := hup.out (j - 1) y p g2 (by rw [show j - 1 + 1 = j by omega]; exact g1)
        obtain ⟨b', off', he, hc2⟩ := (hr.out.st (St.right (A := [(g, spanO)]) (B := []) hS3.out)).get g2
        injection he with he; injection he with e1 e2; subst e1; subst e2
        have c2 : w2.cell? ⟨b, off + (j - 1), none⟩ = some (.string y) := by have := hc2 0 _ rfl; simpa [eStr] using this
        have hcmp1 := Lib.hid (hcmp.out w2 y p)
        generalize kcmp y p = r at *
        have hj3 : ((j : Int) - 1).toNat = j - 1 := by omega
        have hj4 : (0 : Int) ≤ (j : Int) - 1 := by omega
        have hj5 : (j : Int) - 1 < (n : Int) := by omega
        clear g1 g2 hc2
        go_wp2_with (go_at_call 68; refine hcmp1.out.mono ?_; rintro e w3 ⟨rfl, rfl⟩)
        go_roundw
        case rel => exact ⟨j + 1, by simp, by omega, hS3.out⟩
        case measure => simp [intOf]; omega
      · have hj00 : j = 0 := by omega
        subst hj00
        go_wp2
        go_roundw
        case rel => exact ⟨1, by simp, by omega, hS3.out⟩
        case measure => simp [intOf]; omega
    · go_wp2
      go_ret
      exact ⟨rfl, St.right (A := [(g, spanO)]) (B := []) hS.out⟩
end
end Go.Proofs.YtnobknmhffaoeaaGreatDoor
namespace Go.Proofs.YtnobknmhffaoeaaGreatDoor
open Go.RowKit
section
variable (w : World)
theorem buf_right_no (A : Option Addr) (c : Nat) : Calls Tryz.prog 129 #[.slice A 0 c] w fun e w' => e = .returned (.bool true) ∧ w = w' := by
  go_enter Tryz.func129, Tryz.ntmps129
  go_wp2
  go_loopw [7] (fun vj wr => vj = .int .i64 0 ∧ w = wr) (fun vj _ => 0)
  case atStart => exact ⟨rfl, rfl⟩
  case round =>
    obtain ⟨rfl, rfl⟩ := hrel
    go_wp2
    go_ret
    exact ⟨rfl, rfl⟩
theorem index_msg_no (A : Option Addr) (c : Nat) (f : Value) : Calls Tryz.prog 148 #[.slice A 0 c, f] w fun e w' => e = .returned (.int .i64 (-1)) ∧ w = w' := by
  go_enter Tryz.func148, Tryz.ntmps148
  go_wp2
  go_loopw [8] (fun vj wr => vj = .int .i64 0 ∧ w = wr) (fun vj _ => 0)
  case atStart => exact ⟨rfl, rfl⟩
  case round =>
    obtain ⟨rfl, rfl⟩ := hrel
    go_wp2
    go_ret
    exact ⟨rfl, rfl⟩
theorem contains_msg_no (A : Option Addr) (c : Nat) (f : Value) : Calls Tryz.prog 130 #[.slice A 0 c, f] w fun e w' => e = .returned (.bool false) ∧ w = w' := by
  have h := Lib.hid (index_msg_no w A c f)
  go_enter Tryz.func130, Tryz.ntmps130
  go_wp2_with (go_at_call 148; refine h.out.mono ?_; rintro e w' ⟨rfl, rfl⟩)
  go_ret
  exact ⟨rfl, rfl⟩
theorem any_key {ck : Nat} {l : List ByteArray} (h : ∀ p ∈ l, KeyOk ck p) : l.any (fun x => !decide (KeyOk ck x)) = false := by
  rw [List.any_eq_false]; intro p hp; simp [h p hp]
set_option maxRecDepth 100000 in
set_option maxHeartbeats 8000000 in
theorem node_inner {N : Nat} (hs : SortU32 N) (hN2 : N ≤ 100000) (q : Cn) (hq : q.Good) (nd : Nd) (ho : InnerOk q.key q.fan q.blocks nd) (hN : nd.kids.length ≤ N) (kv pv bv prv : Value) (hk : Rd (eNat .u32) w kv nd.kids) (hp : Rd eStr w pv nd.pivots) (hb : Rd eMs w bv []) (hr : Rd ePr w prv []) :
    Calls Tryz.prog 107 #[q.c.v, spanV, .agg #[.int .i64 nd.level, kv, pv, bv, prv]] w fun e w' => e = .returned (.bool true) ∧ St w (FP w []) w' [] := by
  have S0 := St.nil w
  obtain ⟨B1, c1, rfl, _, _⟩ := hk.slice
  obtain ⟨B2, c2, rfl, _, _⟩ := hp.slice
  obtain ⟨B3, c3, rfl⟩ := hb.zero
  obtain ⟨B4, c4, rfl⟩ := hr.zero
  have hk' := Lib.hid hk
  have hp' := Lib.hid hp
  have hkids := Lib.hid (fun w hr => node_kids w hs q hq (.slice B1 nd.kids.length c1) nd.kids hr hN hN2 ho.k1 ho.k2 ho.kup ho.kin)
  have hf2 := hq.f2
  have hkf := ho.k2
  have hpl := ho.plen
  have hfan := Lib.hid (fun w hr => fan_right w (.slice B2 nd.pivots.length c2) nd.pivots hr (by omega) ho.prise (fun p h => (ho.peach p h).1))
  have hct := Lib.hid (fun w hr g lb hp eg => contains_str w (.slice B2 nd.pivots.length c2) nd.pivots hr (by omega) g lb (fun x => !decide (KeyOk q.key x)) hp eg)
  have hany : Hid (nd.pivots.any (fun x => !decide (KeyOk q.key x)) = false) := any_key ho.peach
  have hbr := Lib.hid (fun w => buf_right_no w B3 c3)
  have hcm := Lib.hid (fun w f => contains_msg_no w B3 c3 f)
  have eg : ∀ args w, (callFunc 128 args).run Tryz.prog w = .ok (.enter 128 args) w := enters_of Tryz.func128 (by kernel_rfl) rfl
  have l2 := ho.l2
  have hu : 0 ≤ q.buffer := Nat.zero_le _
  have k0 : ¬ ((nd.level : Int) > 40) := by omega
  clear hk hp hb hr hs ho hN hN2 hq
  generalize nd.level = lv at *
  generalize hnk : nd.kids.length = nk at *
  generalize hnp : nd.pivots.length = np at *
  have kq : ((np : Int) == (nk : Int) - 1) = true := by rw [beq_iff_eq]; omega
  have kq2 : ((np : Int) != (nk : Int) - 1) = false := by rw [bne_eq_false_iff_eq]; omega
  have kw : IntKind.i64.wrap ((nk : Int) - 1) = (nk : Int) - 1 := IntWalk.i64_in _ (by omega)
  clear hnk hnp
  unfold Cfg.v
  go_enter Tryz.func107, Tryz.ntmps107
  go_wp2_with (refine wpl_box S0 rfl _ _ rfl _ rfl ?_)
  intro g3 w1 _ S1
  replace S1 : St w (FP w []) w1 [(g3, cfgO q)] := S1.cast (by first | rfl | rw [← cfg_cells]; rfl)
  go_wp2_with (refine wpl_box S1 rfl _ _ rfl _ rfl ?_)
  intro g4 w2 _ S2
  go_wp2_with (refine wpl_box S2 rfl _ _ rfl _ rfl ?_)
  intro g5 w3 _ S3
  replace S3 : St w (FP w []) w3 [(g5, C 67 [.int .i64 lv, .slice B1 nk c1, .slice B2 np c2, .slice B3 0 c3, .slice B4 0 c4]), (g4, spanO), (g3, cfgO q)] := S3
  have d0 := S3.cell 0 rfl 0 rfl
  have d1 := S3.cell 0 rfl 1 rfl
  have d2 := S3.cell 0 rfl 2 rfl
  have d3 := S3.cell 0 rfl 3 rfl
  have d4 := S3.cell 0 rfl 4 rfl
  have f0 : w3.cell? ⟨g3, 0, none⟩ = some (.int .i64 (q.blocks : Nat)) := S3.cell 2 rfl 0 rfl
  have f1 : w3.cell? ⟨g3, 1, none⟩ = some (.int .i64 (q.bytes : Nat)) := S3.cell 2 rfl 1 rfl
  have f2 : w3.cell? ⟨g3, 2, none⟩ = some (.int .i64 (q.frames : Nat)) := S3.cell 2 rfl 2 rfl
  have f3 : w3.cell? ⟨g3, 3, none⟩ = some (.int .i64 (q.fan : Nat)) := S3.cell 2 rfl 3 rfl
  have f4 : w3.cell? ⟨g3, 4, none⟩ = some (.int .i64 (q.buffer : Nat)) := S3.cell 2 rfl 4 rfl
  have f5 : w3.cell? ⟨g3, 5, none⟩ = some (.int .i64 (q.leaf : Nat)) := S3.cell 2 rfl 5 rfl
  have f6 : w3.cell? ⟨g3, 6, none⟩ = some (.int .i64 (q.key : Nat)) := S3.cell 2 rfl 6 rfl
  have f7 : w3.cell? ⟨g3, 7, none⟩ = some (.int .i64 (q.val : Nat)) := S3.cell 2 rfl 7 rfl
  have hS3 := Lib.hid S3
  have hkids1 := Lib.hid (hkids.out w3 (hk'.out.st S3))
  clear S0 S1 S2 S3
  go_wp2_with (go_at_call 125; refine hkids1.out.mono ?_)
  rintro e w4 ⟨rfl, S4⟩
  have S5 := hS3.out.pure S4
  rw [List.nil_append] at S5
  clear d0 d1 d2 d3 d4 f0 f1 f2 f3 f4 f5 f6 f7
  have d1 := S5.cell 0 rfl 1 rfl
  have d2 := S5.cell 0 rfl 2 rfl
  have s0 := S5.cell 1 rfl 0 rfl
  have s1 := S5.cell 1 rfl 1 rfl
  have s2 := S5.cell 1 rfl 2 rfl
  have hS5 := Lib.hid S5
  have hfan1 := Lib.hid (hfan.out w4 (hp'.out.st S5))
  clear S4 S5
  go_wp2_with (go_at_call 126; refine hfan1.out.mono ?_)
  rintro e w5 ⟨rfl, S6⟩
  have S7 := hS5.out.pure S6
  rw [List.nil_append] at S7
  clear d1 d2 s0 s1 s2
  have d2 := S7.cell 0 rfl 2 rfl
  have H7 : HC w5 [(g3, cfgO q)] := S7.hc.right (A := [_, _])
  have hct1 := Lib.hid (hct.out w5 (hp'.out.st S7) _ _ (ask_inner _ q g3 H7 nd.pivots) eg)
  rw [hany.out] at hct1
  have hS7 := Lib.hid S7
  clear S6 S7 H7
  go_wp2_with (go_at_call 127; refine hct1.out.mono ?_)
  rintro e w6 ⟨rfl, S8⟩
  have S9 := hS7.out.pure S8
  rw [List.nil_append] at S9
  clear d2
  have d3 := S9.cell 0 rfl 3 rfl
  have f4 : w6.cell? ⟨g3, 4, none⟩ = some (.int .i64 (q.buffer : Nat)) := S9.cell 2 rfl 4 rfl
  have hS9 := Lib.hid S9
  clear S8 S9
  go_wp2_with (first | (go_at_call 129; refine (hbr.out _).mono ?_; rintro e w' ⟨rfl, rfl⟩) | (go_at_call 130; refine (hcm.out _ _).mono ?_; rintro e w' ⟨rfl, rfl⟩))
  go_ret
  exact ⟨rfl, St.right (A := [_, _, _]) (B := []) hS9.out⟩
/-- What may be laid: a leaf, or a node above. -/
def NdGood (q : Cn) (nd : Nd) : Prop := (nd.level = 0 ∧ nd.kids = [] ∧ nd.pivots = [] ∧ nd.buf = [] ∧ OuterOk q.key q.val q.leaf nd.pairs) ∨ InnerOk q.key q.fan q.blocks nd
structure NdRd (w : World) (kv pv bv prv : Value) (nd : Nd) : Prop where
  kids : Rd (eNat .u32) w kv nd.kids
  piv : Rd eStr w pv nd.pivots
  buf : Rd eMs w bv nd.buf
  pairs : Rd ePr w prv nd.pairs
theorem NdRd.st {w w1 : World} {kv pv bv prv : Value} {nd : Nd} {R : Blocks} (h : NdRd w kv pv bv prv nd) (S : St w (FP w []) w1 R) : NdRd w1 kv pv bv prv nd :=
  ⟨h.kids.st S, h.piv.st S, h.buf.st S, h.pairs.st S⟩
abbrev ndV (lv : Nat) (kv pv bv prv : Value) : Value := .agg #[.int .i64 lv, kv, pv, bv, prv]
abbrev ndO (lv : Nat) (kv pv bv prv : Value) : Obj := C 67 [.int .i64 lv, kv, pv, bv, prv]
theorem Rd.one {α : Type} {E : Lay α} {w : World} {v : Value} {xs : List α} (h : Rd E w v xs) : v.cells = #[v] := by
  obtain ⟨A, c, rfl, _⟩ := h; rfl
set_option maxRecDepth 100000 in
set_option maxHeartbeats 1000000 in
theorem node_right {N : Nat} (hs : SortU32 N) (hN2 : N ≤ 100000) (q : Cn) (hq : q.Good) (nd : Nd) (hg : NdGood q nd) (hN : nd.kids.length ≤ N) (kv pv bv prv : Value) (hr : NdRd w kv pv bv prv nd) :
    Calls Tryz.prog 92 #[q.c.v, spanV, ndV nd.level kv pv bv prv] w fun e w' => e = .returned (.bool true) ∧ St w (FP w []) w' [] := by
  have S0 := St.nil w
  obtain ⟨B1, c1, hv1, _, _⟩ := hr.kids.slice
  obtain ⟨B2, c2, hv2, _, _⟩ := hr.piv.slice
  obtain ⟨B3, c3, hv3, _, _⟩ := hr.buf.slice
  obtain ⟨B4, c4, hv4, _, _⟩ := hr.pairs.slice
  rcases hg with ⟨h0, h1, h2, h3, h4⟩ | hi
  · have hout := Lib.hid (fun w1 R (S : St w (FP w []) w1 R) => node_outer w1 q hq kv pv bv prv nd.pairs (h1 ▸ (hr.st S).kids) (h2 ▸ (hr.st S).piv) (h3 ▸ (hr.st S).buf) (hr.st S).pairs h4)
    rw [h0]
    clear hr h4 hs hN hN2 hq h0 h1 h2 h3
    rw [hv1, hv2, hv3, hv4] at hout ⊢
    clear hv1 hv2 hv3 hv4
    generalize nd.kids.length = n1 at *
    generalize nd.pivots.length = n2 at *
    generalize nd.buf.length = n3 at *
    generalize nd.pairs.length = n4 at *
    unfold Cfg.v
    go_enter Tryz.func92, Tryz.ntmps92
    go_wp2_with (refine wpl_box S0 rfl _ _ rfl _ rfl ?_)
    intro g3 w1 _ S1
    replace S1 : St w (FP w []) w1 [(g3, cfgO q)] := S1.cast (by first | rfl | rw [← cfg_cells]; rfl)
    go_wp2_with (refine wpl_box S1 rfl _ _ rfl _ rfl ?_)
    intro g4 w2 _ S2
    go_wp2_with (refine wpl_box S2 rfl _ _ rfl _ rfl ?_)
    intro g5 w3 _ S3
    have d0 := S3.cell 0 rfl 0 rfl
    have d1 := S3.cell 0 rfl 1 rfl
    have d2 := S3.cell 0 rfl 2 rfl
    have d3 := S3.cell 0 rfl 3 rfl
    have d4 := S3.cell 0 rfl 4 rfl
    have s0 := S3.cell 1 rfl 0 rfl
    have s1 := S3.cell 1 rfl 1 rfl
    have s2 := S3.cell 1 rfl 2 rfl
    have f0 : w3.cell? ⟨g3, 0, none⟩ = some (.int .i64 (q.blocks : Nat)) := S3.cell 2 rfl 0 rfl
    have f1 : w3.cell? ⟨g3, 1, none⟩ = some (.int .i64 (q.bytes : Nat)) := S3.cell 2 rfl 1 rfl
    have f2 : w3.cell? ⟨g3, 2, none⟩ = some (.int .i64 (q.frames : Nat)) := S3.cell 2 rfl 2 rfl
    have f3 : w3.cell? ⟨g3, 3, none⟩ = some (.int .i64 (q.fan : Nat)) := S3.cell 2 rfl 3 rfl
    have f4 : w3.cell? ⟨g3, 4, none⟩ = some (.int .i64 (q.buffer : Nat)) := S3.cell 2 rfl 4 rfl
    have f5 : w3.cell? ⟨g3, 5, none⟩ = some (.int .i64 (q.leaf : Nat)) := S3.cell 2 rfl 5 rfl
    have f6 : w3.cell? ⟨g3, 6, none⟩ = some (.int .i64 (q.key : Nat)) := S3.cell 2 rfl 6 rfl
    have f7 : w3.cell? ⟨g3, 7, none⟩ = some (.int .i64 (q.val : Nat)) := S3.cell 2 rfl 7 rfl
    have hout1 := Lib.hid (hout.out w3 _ S3)
    have hS3 := Lib.hid S3
    clear S0 S1 S2 S3
    go_wp2_with (go_at_call 106; refine hout1.out.mono ?_)
    rintro e w4 ⟨rfl, S4⟩
    go_wp2
    go_ret
    have S5 := hS3.out.pure S4
    exact ⟨rfl, St.right (A := [_, _, _]) (B := []) S5⟩
  · have hbuf := hi.buf
    have hpr := hi.pairs
    have hinn := Lib.hid (fun w1 R (S : St w (FP w []) w1 R) => node_inner w1 hs hN2 q hq nd hi hN kv pv bv prv (hr.st S).kids (hr.st S).piv (hbuf ▸ (hr.st S).buf) (hpr ▸ (hr.st S).pairs))
    have l1 := hi.l1
    clear hr hs hN hN2 hq hi hbuf hpr
    rw [hv1, hv2, hv3, hv4] at hinn ⊢
    clear hv1 hv2 hv3 hv4
    generalize nd.kids.length = n1 at *
    generalize nd.pivots.length = n2 at *
    generalize nd.buf.length = n3 at *
    generalize nd.pairs.length = n4 at *
    generalize nd.level = lv at *
    have k1 : ((lv : Int) == 0) = false := by rw [beq_eq_false_iff_ne]; omega
    unfold Cfg.v
    go_enter Tryz.func92, Tryz.ntmps92
    go_wp2_with (refine wpl_box S0 rfl _ _ rfl _ rfl ?_)
    intro g3 w1 _ S1
    replace S1 : St w (FP w []) w1 [(g3, cfgO q)] := S1.cast (by first | rfl | rw [← cfg_cells]; rfl)
    go_wp2_with (refine wpl_box S1 rfl _ _ rfl _ rfl ?_)
    intro g4 w2 _ S2
    go_wp2_with (refine wpl_box S2 rfl _ _ rfl _ rfl ?_)
    intro g5 w3 _ S3
    have d0 := S3.cell 0 rfl 0 rfl
    have d1 := S3.cell 0 rfl 1 rfl
    have d2 := S3.cell 0 rfl 2 rfl
    have d3 := S3.cell 0 rfl 3 rfl
    have d4 := S3.cell 0 rfl 4 rfl
    have s0 := S3.cell 1 rfl 0 rfl
    have s1 := S3.cell 1 rfl 1 rfl
    have s2 := S3.cell 1 rfl 2 rfl
    have f0 : w3.cell? ⟨g3, 0, none⟩ = some (.int .i64 (q.blocks : Nat)) := S3.cell 2 rfl 0 rfl
    have f1 : w3.cell? ⟨g3, 1, none⟩ = some (.int .i64 (q.bytes : Nat)) := S3.cell 2 rfl 1 rfl
    have f2 : w3.cell? ⟨g3, 2, none⟩ = some (.int .i64 (q.frames : Nat)) := S3.cell 2 rfl 2 rfl
    have f3 : w3.cell? ⟨g3, 3, none⟩ = some (.int .i64 (q.fan : Nat)) := S3.cell 2 rfl 3 rfl
    have f4 : w3.cell? ⟨g3, 4, none⟩ = some (.int .i64 (q.buffer : Nat)) := S3.cell 2 rfl 4 rfl
    have f5 : w3.cell? ⟨g3, 5, none⟩ = some (.int .i64 (q.leaf : Nat)) := S3.cell 2 rfl 5 rfl
    have f6 : w3.cell? ⟨g3, 6, none⟩ = some (.int .i64 (q.key : Nat)) := S3.cell 2 rfl 6 rfl
    have f7 : w3.cell? ⟨g3, 7, none⟩ = some (.int .i64 (q.val : Nat)) := S3.cell 2 rfl 7 rfl
    have hinn1 := Lib.hid (hinn.out w3 _ S3)
    have hS3 := Lib.hid S3
    clear S0 S1 S2 S3
    go_wp2_with (go_at_call 107; refine hinn1.out.mono ?_)
    rintro e w4 ⟨rfl, S4⟩
    go_wp2
    go_ret
    have S5 := hS3.out.pure S4
    exact ⟨rfl, St.right (A := [_, _, _]) (B := []) S5⟩
end
end Go.Proofs.YtnobknmhffaoeaaGreatDoor
