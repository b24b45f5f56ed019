/- bulk.Lay, of pairs that may be laid. -/
import Derived.Test.YtnobknmhffaoeaaGreatDoorQClimb
import Derived.Test.YtnobknmhffaoeaaGreatDoorQHead
set_option linter.unusedVariables false
set_option linter.unusedSimpArgs false
namespace Go.Proofs.YtnobknmhffaoeaaGreatDoor
open Go.RowKit
theorem headL_len {q : Cn} (hy : 64 ≤ q.bytes) (root height : Nat) : (headL q root height).length = q.bytes := by
  have b4 : ∀ x, (be 4 x).length = 4 := fun x => by simp [be]
  have h1 : (headFront q root height).length = 60 := by
    unfold headFront
    rw [List.length_append, List.length_append, be_flat_len, List.length_replicate]
    rfl
  unfold headL
  rw [List.length_append, List.length_append, h1, b4, List.length_replicate]
  omega
/-- What a device is behind a Lay: its row's only spot, all that was laid, and the height. -/
def topOf (q : Cn) (row : List Spot) (made : List (List UInt8)) : List Spot × List (List UInt8) × Nat := climb q row.length 0 row made
def layImg (q : Cn) (row0 : List Spot) (made0 : List (List UInt8)) : List UInt8 :=
  ((imgOf q (topOf q row0 made0).2.1).set 0 (headL q ((topOf q row0 made0).1.headD noSp).block ((topOf q row0 made0).2.2 + 1))).flatten
def lenV : Value → Nat
  | .slice _ n _ => n
  | _ => 0
theorem HC.thin {w : World} {L L' : Blocks} (h : HC w L) (hs : L'.Sublist L) : HC w L' := ⟨(hs.map Prod.fst).nodup h.1, fun p hp => h.2 p (hs.subset hp)⟩
theorem St.thin {w0 w : World} {F : Nat → Prop} {L L' : Blocks} (S : St w0 F w L) (hs : L'.Sublist L) : St w0 F w L' := S.sub (S.hc.thin hs) (fun k hk => S.foot k ((hs.map Prod.fst).subset hk))
theorem permD {α : Type} (S C D P R : List α) : ((S ++ ((C ++ D) ++ P)) ++ R).Perm (D ++ ((S ++ (C ++ P)) ++ R)) := by
  have h := mid_perm (S ++ C) D (P ++ R)
  simp only [List.append_assoc] at h ⊢
  exact h
theorem permE {α : Type} (L G A S : List α) : (L ++ (G ++ (A ++ S))).Perm (S ++ ((L ++ A) ++ G)) := by
  refine (List.Perm.append_left L List.perm_append_comm).trans ?_
  have h := mid_perm (L ++ A) S G
  simp only [List.append_assoc] at h ⊢
  exact h
/-- The contract of leaves that Lay wants. -/
def LeavesOk (q : Cn) (v : Value) (l : List Pr) (per : Nat) (row0 : List Spot) (made0 : List (List UInt8)) : Prop :=
  ∀ (s : Nat) (z : CAt) (h : CH) (k : Cm) (d : Dv) (p : PAt) (W : List Nat) (w : World), ShOk q [] h k d p W → HC w (shB q s z h k d p W 0) → (∀ W1 L, St w (FP w (shB q s z h k d p W 0)) W1 L → Rd ePr W1 v l) →
    Calls Tryz.prog 19 #[.pointer (some ⟨s, 0, none⟩), v, .int .i64 per] w fun e w' => ∃ rv A h' k' d' W', e = .returned (.tuple #[rv, .int .i64 0]) ∧ Own eSpot 55 rv row0 A ∧ ShOk q made0 h' k' d' p W' ∧
      St w (FP w (shB q s z h k d p W 0)) w' (A ++ shB q s z h' k' d' p W' made0.length)
theorem leaves_ok {N : Nat} (hs : SortU32 N) (hN2 : N ≤ 100000) {q : Cn} (hq : q.Good) (per : Nat) (h1 : 1 ≤ per) (h2 : per ≤ q.leaf) (v : Value) (l : List Pr) (hl0 : l ≠ []) (hl : l.length ≤ 100000) (hup : Rise (l.map Pr.key)) (he : ∀ p ∈ l, PairOk q.key q.val p)
    (hm : upN l.length per < q.blocks) : LeavesOk q v l per (leafRow per l (upN l.length per)) (leafMade q per l (upN l.length per)) := by
  intro s z h k d p W w K H hrd
  rw [leafMade_len]
  exact bulk_leaves hs hN2 hq K per h1 h2 v l hl0 hl hup he hm w H hrd
set_option maxRecDepth 100000 in
set_option maxHeartbeats 4000000 in
theorem bulk_lay {N : Nat} (hs : SortU32 N) (hN2 : N ≤ 100000) (q : Cn) (hq : q.Good) (hfN : q.fan ≤ N) (hrN : q.frames ≤ N) (hlim : q.blocks * q.bytes ≤ 2147483648) (per : Nat) (h1 : 1 ≤ per) (h2 : per ≤ q.leaf) (v : Value) (l : List Pr) (hl : l.length ≤ 100000)
    (hup : Rise (l.map Pr.key)) (he : ∀ p ∈ l, PairOk q.key q.val p) (hb : 1 + (rowsFrom q.fan (max 1 (upN l.length per))).sum ≤ q.blocks) (row0 : List Spot) (made0 : List (List UInt8)) (hlv : LeavesOk q v l per row0 made0) (hrow : RowOk q 0 row0 made0)
    (t : Obj) (ht : TabO t) (w : World) (H : HC w (tabB t)) (hrd : ∀ W1 L, St w (FP w (tabB t)) W1 L → Rd ePr W1 v l) :
    Calls Tryz.prog 9 #[q.c.v, v, .int .i64 per] w fun e w' => ∃ r A, e = .returned (.tuple #[r, .int .i64 0]) ∧ Own eByte 5 r (layImg q row0 made0) A ∧ (layImg q row0 made0).length = q.blocks * q.bytes ∧ St w (FP w (tabB t)) w' (A ++ tabB t) := by
  have S0 := H.st
  generalize FP w (tabB t) = F at *
  have hmay := Lib.hid (fun w hr => bulk_may q hq w v l hr hl hup he per h1 h2 hb)
  have hnew := Lib.hid (fun w => dev_new w q.blocks q.bytes hq.b1 hq.b2 (by have := hq.y1; omega) hq.y2)
  have hsn := Lib.hid (fun dv w H => shelf_new q hq dv t ht w H)
  have hlv' := Lib.hid hlv
  have hab := Lib.hid (fun s z h k d p W made (K : ShOk q made h k d p W) level b0 l1 l2 v row hl0 hl hok hb1 hb2 hm w H hrd => bulk_above (s := s) (z := z) hs hN2 hq K level b0 l1 l2 v row hl0 hl hok hb1 hb2 hfN hm w H hrd)
  have hen := Lib.hid (fun w root height r1 r2 t1 t2 => head_encode w q hq root height r1 r2 t1 t2)
  have hfl := Lib.hid (fun s z h k d p W made (K : ShOk q made h k d p W) w H => shelf_flush (s := s) (z := z) hs hN2 K hrN w H)
  have hdw := Lib.hid (fun z d w K hi v x hx hr H => dev_write z d w K 0 hi v x hx hr H)
  have him := Lib.hid (fun z d w K hlim H => dev_image z d w K hlim H)
  have hrd' := Lib.hid hrd
  have hrow' := Lib.hid hrow
  have hq' := Lib.hid hq
  have hlim' := Lib.hid hlim
  have hll := Lib.hid (fun a b => headL_len (q := q) hq.y1 a b)
  obtain ⟨B0, c0, hv, _, _⟩ := (hrd w _ S0).slice
  rw [hv] at hmay hlv' hrd' ⊢
  generalize hn : l.length = n0 at *
  clear hs hN2 hq hfN hrN hlim h1 h2 hl hup he hb hlv hrow ht H hrd hv hn
  unfold Cfg.v
  go_enter Tryz.func9, Tryz.ntmps9
  go_wp2_with (refine wpl_box S0 rfl _ _ rfl _ rfl ?_)
  intro g w1 hgw S1
  replace S1 : St w F w1 ([(g, cfgO q)] ++ tabB t) := S1.cast (by first | rfl | (rw [← cfg_cells]; rfl))
  have Fx : Hid (∀ wr R, St w F wr ([(g, cfgO q)] ++ R) → (wr.cell? ⟨g, 0, none⟩ = some (.int .i64 (q.blocks : Nat)) ∧ wr.cell? ⟨g, 1, none⟩ = some (.int .i64 (q.bytes : Nat)) ∧ wr.cell? ⟨g, 2, none⟩ = some (.int .i64 (q.frames : Nat)) ∧ wr.cell? ⟨g, 3, none⟩ = some (.int .i64 (q.fan : Nat)) ∧
     wr.cell? ⟨g, 4, none⟩ = some (.int .i64 (q.buffer : Nat)) ∧ wr.cell? ⟨g, 5, none⟩ = some (.int .i64 (q.leaf : Nat)) ∧ wr.cell? ⟨g, 6, none⟩ = some (.int .i64 (q.key : Nat)) ∧ wr.cell? ⟨g, 7, none⟩ = some (.int .i64 (q.val : Nat)))) :=
    fun wr R S => ⟨S.cell 0 rfl 0 rfl, S.cell 0 rfl 1 rfl, S.cell 0 rfl 2 rfl, S.cell 0 rfl 3 rfl, S.cell 0 rfl 4 rfl, S.cell 0 rfl 5 rfl, S.cell 0 rfl 6 rfl, S.cell 0 rfl 7 rfl⟩
  obtain ⟨f0, f1, f2, f3, f4, f5, f6, f7⟩ := Fx.out w1 _ S1
  have hm1 := Lib.hid (hmay.out w1 (hrd'.out w1 _ S1))
  have hS1 := Lib.hid S1
  clear S0 S1 hmay
  go_wp2_with (go_at_call 16; refine hm1.out.mono ?_)
  rintro e w2 ⟨rfl, S2⟩
  have S3 := hS1.out.pure S2
  rw [List.nil_append] at S3
  clear f0 f1 f2 f3 f4 f5 f6 f7 S2 hS1 hm1
  obtain ⟨f0, f1, f2, f3, f4, f5, f6, f7⟩ := Fx.out w2 _ S3
  have hnew1 := Lib.hid (hnew.out w2)
  have hS3 := Lib.hid S3
  clear S3 hnew
  go_wp2_with (go_at_call 17; refine hnew1.out.mono ?_)
  rintro e w3 ⟨dv, rfl, S4⟩
  have S5 : St w F w3 ([(g, cfgO q)] ++ (devB dv (Dv.zero q.blocks q.bytes) ++ tabB t)) := (hS3.out.pure S4).perm (mid_perm _ _ _)
  clear f0 f1 f2 f3 f4 f5 f6 f7 S4 hS3 hnew1
  obtain ⟨f0, f1, f2, f3, f4, f5, f6, f7⟩ := Fx.out w3 _ S5
  have S6 := S5.swap
  have hsn1 := Lib.hid (hsn.out dv w3 S6.hc.left)
  have hS6 := Lib.hid S6
  clear S5 S6 hsn
  go_wp2_with (go_at_call 18; refine hsn1.out.mono ?_)
  rintro e w4 ⟨s, z, h, k, d, p, W, rfl, hz, hp, K, S7⟩
  subst hz
  subst hp
  have S8 := hS6.out.call S7
  have hlv1 := Lib.hid (hlv'.out s z h k d p W w4 K S8.hc.left (fun W1 L S => hrd'.out W1 _ (S8.call S)))
  have hS8 := Lib.hid S8
  clear f0 f1 f2 f3 f4 f5 f6 f7 S7 S8 K hS6 hsn1 hlv'
  go_wp2_with (go_at_call 19; refine hlv1.out.mono ?_)
  rintro e w5 ⟨rv0, A0, h, k, d, W, rfl, O, K, S9⟩
  have S10 := hS8.out.call S9
  have hS10 := Lib.hid (S10.cast (List.append_assoc _ _ _))
  obtain ⟨B1, c1, rfl, _, _⟩ := O.slice
  generalize hn1 : row0.length = n1 at *
  replace hn1 := Lib.hid hn1
  have hO := Lib.hid O
  have hK := Lib.hid K
  clear S9 S10 hS8 hlv1 O K
  go_wp2
  go_loopw [10, 12, 13] (fun ev rv lv wr => ∃ (lev fuel n : Nat) (c : Nat) (B : Option Addr) (row : List Spot) (made : List (List UInt8)) (A : Blocks) (h : CH) (k : Cm) (d : Dv) (W : List Nat), ev = .int .i64 0 ∧ rv = .slice B n c ∧ lv = .int .i64 lev ∧ Hid (row.length = n ∧ n ≤ fuel ∧ RowOk q lev row made ∧ climb q fuel lev row made = topOf q row0 made0 ∧ Own eSpot 55 (.slice B n c) row A ∧ ShOk q made h k d p W ∧
    St w F wr (A ++ (shB q s z h k d p W made.length ++ [(g, cfgO q)])))) (fun _ rv _ _ => lenV rv)
  case atStart => exact ⟨0, n1, n1, _, _, row0, made0, A0, h, k, d, W, rfl, rfl, rfl, hn1.out, Nat.le_refl _, hrow'.out, by unfold topOf; rw [hn1.out], hO.out, hK.out, hS10.out⟩
  case round =>
    obtain ⟨lev, fuel, n, c, B, row, made, A, h, k, d, W, rfl, rfl, rfl, hrel⟩ := hrel
    obtain ⟨r1, r2, r3, r4, O, K, Sr⟩ := hrel.out
    have hq := hq'.out
    by_cases hgt : 1 < n
    · have q1 : (1 : Int) < (n : Int) := by omega
      have hr1 : 1 < row.length := by rw [r1]; exact hgt
      have hlow := r3.low hr1
      have q2 : IntKind.i64.wrap ((lev : Int) + 1) = ((lev + 1 : Nat) : Int) := by rw [IntWalk.i64_in _ (by omega)]; omega
      have hnxt := r3.next hq.f1 hr1
      have hroom := r3.room' (by have := hq.f1; omega) hr1
      have hlt := upN_lt (b := q.fan) hr1 (by have := hq.f1; omega)
      have hle := r3.le
      have hle2 : row.length ≤ 100000 := by
        have h1 := r3.lev
        have h2 : 1 * row.length ≤ 2 ^ lev * row.length := Nat.mul_le_mul_right _ (Nat.one_le_two_pow)
        omega
      have Sp : St w F wr (shB q s z h k d p W made.length ++ (A ++ [(g, cfgO q)])) := Sr.perm (mid_perm _ _ _)
      have hab1 := Lib.hid (hab.out s z h k d p W made K (lev + 1) (made.length + 1 - row.length) (by omega) (by omega) (.slice B n c) row (by intro e; rw [e] at hr1; simp at hr1) hle2 (r3.ok hr1) (by omega) (by omega) hroom wr Sp.hc.left (fun W1 L S => O.rd (Sp.call S).right.hc.left))
      have hSp := Lib.hid Sp
      have hcl : Hid (climb q (fuel - 1) (lev + 1) (aRow q (made.length + 1) row (upN row.length q.fan)) (made ++ aMade q (lev + 1) row (upN row.length q.fan)) = topOf q row0 made0) := by
        show _ = _
        rw [← r4]
        obtain ⟨f, hf⟩ : ∃ f, fuel = f + 1 := ⟨fuel - 1, by omega⟩
        subst hf
        conv => rhs; unfold climb
        rw [if_pos hr1]; rfl
      have hln : Hid (upN row.length q.fan < n ∧ upN row.length q.fan ≤ fuel - 1 ∧ (aRow q (made.length + 1) row (upN row.length q.fan)).length = upN row.length q.fan ∧ (made ++ aMade q (lev + 1) row (upN row.length q.fan)).length = made.length + upN row.length q.fan) :=
        ⟨by omega, by omega, aRow_len _ _ _ _, by rw [List.length_append, aMade_len]⟩
      have hN := Lib.hid hnxt
      clear r1 r2 r3 r4 O K Sr hrel Sp hnxt hroom hlt hle hle2 hr1 hq
      go_wp2_with (go_at_call 20; refine hab1.out.mono ?_)
      rintro e w6 ⟨rv2, A2, h2, k2, d2, W2, rfl, O2, K2, S2⟩
      obtain ⟨B2, c2, rfl, _, _⟩ := O2.slice
      have S3 := ((hSp.out.call S2).thin (List.Sublist.append (List.Sublist.refl _) (List.sublist_append_right A [(g, cfgO q)]))).cast (List.append_assoc _ _ _)
      rw [← hln.out.2.2.2] at S3
      obtain ⟨n2, hn2⟩ : ∃ n2, (aRow q (made.length + 1) row (upN row.length q.fan)).length = n2 := ⟨_, rfl⟩
      have hln2 := hln.out
      rw [hn2] at O2 hln2 ⊢
      have hO2 := Lib.hid O2
      have hS3 := Lib.hid S3
      have hK2 := Lib.hid K2
      replace hn2 := Lib.hid hn2
      have m1 : n2 < n := by omega
      have m2 : n2 ≤ fuel - 1 := by omega
      clear S2 S3 O2 K2 hab1 hSp hln hln2
      go_wp2
      go_roundw
      case rel => exact ⟨lev + 1, fuel - 1, n2, c2, B2, _, _, A2, h2, k2, d2, W2, rfl, rfl, by simp, hn2.out, m2, hN.out, hcl.out, hO2.out, hK2.out, hS3.out⟩
      case measure => simp [lenV]; omega
    · have hn1' : n = 1 := by have := r3.ne; omega
      subst hn1'
      have hrow1 : ∃ s0, row = [s0] := by
        cases row with
        | nil => simp at r1
        | cons a l => cases l with
          | nil => exact ⟨a, rfl⟩
          | cons b l => simp at r1
      obtain ⟨s0, rfl⟩ := hrow1
      obtain ⟨o1, o2⟩ := r3.one s0 rfl
      have htop : topOf q row0 made0 = ([s0], made, lev) := by
        rw [← r4]
        cases fuel with
        | zero => omega
        | succ f => unfold climb; rw [if_neg (by simp)]
      have himg : Hid (layImg q row0 made0 = ((imgOf q made).set 0 (headL q s0.block (lev + 1))).flatten) := by
        show _ = _
        unfold layImg; rw [htop]; rfl
      have hroom := r3.room
      rw [rows_end (by simp)] at hroom
      simp only [List.sum_cons, List.sum_nil, List.length_singleton] at hroom
      have hlow : lev ≤ 16 := by
        have h1 := r3.lev
        simp only [List.length_singleton, Nat.mul_one] at h1
        rcases Nat.lt_or_ge lev 17 with h2 | h2
        · omega
        · have h3 : 2 ^ 17 ≤ 2 ^ lev := Nat.pow_le_pow_right (by omega) h2
          omega
      have hrdO := O.rd Sr.hc.left
      obtain ⟨b, off, rfl, hcell⟩ := hrdO.get (j := 0) (x := s0) rfl
      have x0 : wr.cell? ⟨b, off, none⟩ = some (.int .u32 s0.block) := by simpa using hcell 0 _ rfl
      have Sg : St w F wr ([(g, cfgO q)] ++ (A ++ shB q s z h k d p W made.length)) := (Sr.cast (List.append_assoc _ _ _).symm).swap
      obtain ⟨f0, f1, f2, f3, f4, f5, f6, f7⟩ := Fx.out wr _ Sg
      have hen1 := Lib.hid (fun w => hen.out w s0.block (lev + 1) o1 (by omega) (by omega) (by omega))
      unfold headC Cfg.cells Cn.c at hen1
      simp only [List.cons_append, List.nil_append, Int.natCast_add, Int.natCast_one] at hen1
      have q1 : ¬ (1 : Int) < ((1 : Nat) : Int) := by omega
      have q2 : IntKind.i64.wrap ((lev : Int) + 1) = (lev : Int) + 1 := IntWalk.i64_in _ (by omega)
      have hSg := Lib.hid Sg
      have hK := Lib.hid K
      clear r1 r2 r3 r4 O K Sr hrel hrdO hcell htop hroom hq Sg o1 o2 hgt hab
      go_wp2
      go_region_with (go_at_call 21; refine (hen1.out _).mono ?_; rintro e w6 ⟨bv, L, rfl, Ob, Sb⟩; have S2 := hSg.out.drew.pure Sb; have hOb := Lib.hid Ob; have hS2 := Lib.hid S2; clear Ob Sb S2)
      all_goals (
        have Sx : St w F w6 (shB q s z h k d p W made.length ++ ((L ++ A) ++ [(g, cfgO q)])) := hS2.out.perm (permE _ _ _ _)
        have hfl1 := Lib.hid (hfl.out s z h k d p W made hK.out w6 Sx.hc.left)
        have hSx := Lib.hid Sx
        clear Sx hS2
        go_wp2_with (go_at_call 22; refine hfl1.out.mono ?_)
        rintro e w7 ⟨rfl, k3, d3, D3, e2, e3, e1, S3⟩
        have S4 := hSx.out.call S3
        unfold shB at S4
        have S5 := S4.perm (permD _ _ _ _ _)
        have hxl : (headL q s0.block (lev + 1)).length = d3.bytes := by rw [hll.out, e3]
        have hdw1 := Lib.hid (hdw.out z.dv d3 w7 D3 (by have := D3.b0; omega) bv _ hxl (hOb.out.rd S5.right.right.left.left.hc) S5.hc.left)
        have hD3 := Lib.hid D3
        have hS5 := Lib.hid S5
        replace e1 := Lib.hid e1
        replace e2 := Lib.hid e2
        replace e3 := Lib.hid e3
        replace hxl := Lib.hid hxl
        clear S3 S4 S5 D3 hSx hfl1
        go_wp2_with (go_at_call 23; refine hdw1.out.mono ?_)
        rintro e w8 ⟨rfl, S6⟩
        have S7 := hS5.out.call S6
        have him1 := Lib.hid (him.out z.dv (d3.write 0 (headL q s0.block (lev + 1))) w8 (hD3.out.write 0 hxl.out) (by show d3.blocks * d3.bytes ≤ _; rw [e2.out, e3.out]; exact hlim'.out) S7.hc.left)
        have hS7 := Lib.hid S7
        clear S6 S7 hdw1 hS5
        go_wp2_with (go_at_call 24; refine him1.out.mono ?_)
        rintro e w9 ⟨rv, LI, rfl, OI, S8⟩
        have S9 := hS7.out.call S8
        have hS9 := Lib.hid (S9.thin (L' := LI ++ tabB p.t) (by
          rw [List.append_assoc]
          refine List.Sublist.append (List.Sublist.refl _) (List.singleton_sublist.2 ?_)
          simp [poolB, bitsB]))
        have hOI : Hid (Own eByte 5 rv (layImg q row0 made0) LI) := by
          show Own _ _ _ _ _
          rw [himg.out, ← e1.out]; exact OI
        have hlen : Hid ((layImg q row0 made0).length = q.blocks * q.bytes) := by
          show _ = _
          rw [himg.out, ← e1.out]
          have := (hD3.out.write 0 hxl.out).flat
          rw [← e2.out, ← e3.out]
          exact this
        clear OI S8 S9
        go_wp2
        go_ret2
        exact ⟨_, LI, rfl, hOI.out, hlen.out, hS9.out⟩)
end Go.Proofs.YtnobknmhffaoeaaGreatDoor
