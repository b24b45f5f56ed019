/- More rules for a walk inside a fence: stores over our blocks, whole structs, and facts on rows of spots. bulk.above: the nodes above a row are laid. -/
import Derived.Test.YtnobknmhffaoeaaGreatDoorQChunk
import Derived.Test.YtnobknmhffaoeaaGreatDoorQLeaves
set_option linter.unusedVariables false
set_option linter.unusedSimpArgs false
namespace Go.Proofs.YtnobknmhffaoeaaGreatDoor
open Go.RowKit
section
variable {P : Program} {w0 w : World} {F : Nat → Prop} {L : Blocks} {ops : Array Oper} {rest : List Oper} {o : Oper} {a : Act} {Q : Exit → Act → World → Prop} {Fe : Fence} {n : Nat}
/-- A store of a whole value. -/
theorem gil_store (hgd : o.guard = none) (t : Nat) (ad x : Operand) (ho : o.op = .store t ad x) (g off : Nat) (hA : a.eval ad = .pointer (some ⟨g, off, none⟩)) (v : Value) (hx : a.eval x = v)
    (hsz : ∀ w, (sizeOf t).run P w = .ok v.cells.size w) (S : St w0 F w L) (i e : Nat) (cs : List Value) (hi : L[i]? = some (g, C e cs))
    (hfit : off + v.cells.size ≤ cs.length) (h1 : ∀ u ∈ v.cells.toList, u.oneCell' = true)
    (K : ∀ w', St w0 F w' (L.set i (g, C e (put cs off v.cells.toList))) → wpListIn Fe n P ops Q rest (a.put o.dst undef) w') : wpListIn Fe n P ops Q (o :: rest) a w := by
  refine wpListIn_plain hgd fun K' hK => ?_
  obtain ⟨w', hr, hT⟩ := run_storeVar_turn (P := P) w t g off e cs v (hsz w) (S.hc.at_ i hi) hfit h1
  unfold Oper.wpIn
  refine ⟨fun f hf => absurd hf (by simp [Oper.about, ho]), ?_⟩
  rw [Oper.semAt_plain Fe _ _ (by rw [ho]; intro c hc'; cases hc')]
  simp only [execOp, ho, hA, hx, Sem.run_bind, hr, Result.andThen_ok, Sem.run_pure]
  exact hK _ _ (K w' (S.turn i hi hT))
theorem gil_set (hgd : o.guard = none) (t : Nat) (ad x : Operand) (ho : o.op = .store t ad x) (g off : Nat) (hA : a.eval ad = .pointer (some ⟨g, off, none⟩)) (v : Value) (hx : a.eval x = v)
    (hsz : ∀ w, (sizeOf t).run P w = .ok 1 w) (S : St w0 F w L) (i e : Nat) (cs : List Value) (hi : L[i]? = some (g, C e cs))
    (hfit : off < cs.length) (h1 : v.oneCell' = true)
    (K : ∀ w', St w0 F w' (L.set i (g, C e (cs.set off v))) → wpListIn Fe n P ops Q rest (a.put o.dst undef) w') : wpListIn Fe n P ops Q (o :: rest) a w := by
  have hc := cells_one h1
  refine gil_store hgd t ad x ho g off hA v hx (fun w => by rw [hc]; exact hsz w) S i e cs hi (by rw [hc]; exact hfit) (by rw [hc]; simpa using h1) (fun w' S' => K w' ?_)
  rw [hc] at S'
  have : put cs off (#[v] : Array Value).toList = cs.set off v := put_one cs off v hfit
  rw [this] at S'
  exact S'
theorem gil_alloc (S : St w0 F w L) (hgd : o.guard = none) (t : Nat) (ho : o.op = .alloc t) (z : Value) (hz : ∀ w, (zeroValue t).run P w = .ok z w)
    (K : ∀ g w', w.heap.size ≤ g → St w0 F w' ((g, C t z.cells.toList) :: L) → wpListIn Fe n P ops Q rest (a.put o.dst (.pointer (some ⟨g, 0, none⟩))) w') : wpListIn Fe n P ops Q (o :: rest) a w := by
  have hr : (Instr.alloc t true (.tuple #[])).run P w = .ok (.pointer (some ⟨w.heap.size, 0, none⟩)) (w.alloc (.cells z.cells t)) := by
    simp only [Instr.alloc, Sem.run_bind, hz w, Result.andThen_ok, newVar, newRow, run_newObj_alloc, Sem.run_pure]
  refine gil_run hgd (by simp [Oper.about, ho]) (by rw [ho]; intro c h; cases h) (v := .pointer (some ⟨w.heap.size, 0, none⟩)) (w' := w.alloc (.cells z.cells t)) ?_ ?_
  · simp only [execOp, ho, Sem.run_bind, hr, Result.andThen_ok, Sem.run_pure]
  · exact K w.heap.size _ (Nat.le_refl _) (S.alloc (C t z.cells.toList))
end
/-! ### rows of spots -/
theorem pivots_succ : ∀ (l : List Spot) (a b : Spot), pivotsOf (l ++ [a, b]) = pivotsOf (l ++ [a]) ++ [kcut a.top b.low]
  | [], a, b => rfl
  | [x], a, b => rfl
  | x :: y :: l, a, b => by
    have := pivots_succ (y :: l) a b
    simp only [List.cons_append] at this ⊢
    simp only [pivotsOf, List.cons_append]
    rw [this]
theorem pivots_take {l : List Spot} {j : Nat} {a b : Spot} (ha : l[j]? = some a) (hb : l[j + 1]? = some b) : pivotsOf (l.take (j + 2)) = pivotsOf (l.take (j + 1)) ++ [kcut a.top b.low] := by
  have e1 : l.take (j + 1) = l.take j ++ [a] := by rw [List.take_add_one, ha]; rfl
  have e2 : l.take (j + 2) = l.take j ++ [a, b] := by rw [List.take_add_one, hb, e1]; simp
  rw [e1, e2, pivots_succ]
theorem pivots_one {l : List Spot} : pivotsOf (l.take 1) = [] := by
  cases l with
  | nil => rfl
  | cons a l => rfl
end Go.Proofs.YtnobknmhffaoeaaGreatDoor
namespace Go.Proofs.YtnobknmhffaoeaaGreatDoor
open Go.RowKit
attribute [local go_sem] Oper.semAt_some
theorem info_string : (Tryz.prog.info? 9).map (fun i => (i.zero, i.size, i.bytes)) = some (some (.string ⟨#[]⟩), 1, 16) := by kernel_rfl
def aPart (q : Cn) (row : List Spot) (i : Nat) : List Spot := (row.drop (i * q.fan)).take q.fan
def aNd (q : Cn) (level : Nat) (row : List Spot) (i : Nat) : Nd := nodeOf level (aPart q row i)
def noSp : Spot := ⟨0, ⟨#[]⟩, ⟨#[]⟩⟩
def aSpot (q : Cn) (b : Nat) (row : List Spot) (i : Nat) : Spot := ⟨b + i, ((aPart q row i).headD noSp).low, ((aPart q row i).getLastD noSp).top⟩
def aRow (q : Cn) (b : Nat) (row : List Spot) (m : Nat) : List Spot := (List.range m).map (aSpot q b row)
def aMade (q : Cn) (level : Nat) (row : List Spot) (m : Nat) : List (List UInt8) := (List.range m).map fun i => blkL q (aNd q level row i)
theorem aMade_succ (q : Cn) (level : Nat) (row : List Spot) (m : Nat) : aMade q level row (m + 1) = aMade q level row m ++ [blkL q (aNd q level row m)] := by simp [aMade, List.range_succ]
theorem aRow_succ (q : Cn) (b : Nat) (row : List Spot) (m : Nat) : aRow q b row (m + 1) = aRow q b row m ++ [aSpot q b row m] := by simp [aRow, List.range_succ]
theorem aMade_len (q : Cn) (level : Nat) (row : List Spot) (m : Nat) : (aMade q level row m).length = m := by simp [aMade]
theorem aRow_len (q : Cn) (b : Nat) (row : List Spot) (m : Nat) : (aRow q b row m).length = m := by simp [aRow]
theorem aPart_len (q : Cn) (row : List Spot) (i : Nat) : (aPart q row i).length = min q.fan (row.length - i * q.fan) := by unfold aPart; simp
section
variable {q : Cn} {s : Nat} {z : CAt} {h : CH} {k : Cm} {d : Dv} {p : PAt} {W : List Nat} {made : List (List UInt8)}
def avB (gn gs g8 g7 g6 g5 g3 s per lv : Nat) (rv ov : Value) : Blocks :=
  [(gn, C 3 [.int .i64 per]), (gs, C 48 [rv]), (g8, C 48 [ov]), (g7, C 30 [.int .i64 0]), (g6, C 48 [.slice none 0 0]), (g5, C 3 [.int .i64 lv]), (g3, C 45 [.pointer (some ⟨s, 0, none⟩)])]
theorem cfg_field3 (w : World) : (Instr.field 23 q.c.v 3).run Tryz.prog w = .ok (.int .i64 (q.fan : Nat)) w := by
  unfold Cfg.v Cfg.cells Cn.c
  simp [Instr.field, run_underlying Tryz.underlying23, part, Tryz.isAgg3, asAgg]
set_option maxRecDepth 100000 in
set_option maxHeartbeats 6000000 in
theorem bulk_above {N : Nat} (hs : SortU32 N) (hN2 : N ≤ 100000) (hq : q.Good) (K : ShOk q made h k d p W) (level b0 : Nat) (l1 : 1 ≤ level) (l2 : level ≤ 40) (v : Value) (row : List Spot) (hl0 : row ≠ []) (hl : row.length ≤ 100000) (hok : SpotsOk q.key b0 row) (hb1 : 1 ≤ b0) (hb2 : b0 + row.length ≤ q.blocks) (hfN : q.fan ≤ N)
    (hm : made.length + upN row.length q.fan < q.blocks) (w : World) (H : HC w (shB q s z h k d p W made.length)) (hrd : ∀ W1 L, St w (FP w (shB q s z h k d p W made.length)) W1 L → Rd eSpot W1 v row) :
    Calls Tryz.prog 20 #[.pointer (some ⟨s, 0, none⟩), v, .int .i64 level] w fun e w' => ∃ rv A h' k' d' W', e = .returned (.tuple #[rv, .int .i64 0]) ∧ Own eSpot 55 rv (aRow q (made.length + 1) row (upN row.length q.fan)) A ∧ ShOk q (made ++ aMade q level row (upN row.length q.fan)) h' k' d' p W' ∧
      St w (FP w (shB q s z h k d p W made.length)) w' (A ++ shB q s z h' k' d' p W' (made.length + upN row.length q.fan)) := by
  have S := H.st
  have hcf := Lib.hid (fun w H => shelf_config (q := q) (made := made) (s := s) (z := z) (h := h) (k := k) (d := d) (p := p) (W := W) w H)
  have hfl := cfg_field3 (q := q)
  have h1 : 1 ≤ q.fan := by have := hq.f1; omega
  have h2 : q.fan ≤ 64 := hq.f2
  generalize FP w (shB q s z h k d p W made.length) = F at *
  obtain ⟨B, cc, hv, hc1, hc2⟩ := (hrd w _ S).slice
  have hB : ∃ b off, B = some ⟨b, off, none⟩ := by
    cases row with
    | nil => exact absurd rfl hl0
    | cons x l =>
      obtain ⟨b, off, h, _⟩ := (hv ▸ hrd w _ S).get (j := 0) (x := x) rfl
      exact ⟨b, off, h⟩
  obtain ⟨b, off, rfl⟩ := hB
  rw [hv] at hrd ⊢
  have hlen1 : 1 ≤ row.length := by cases row with
    | nil => exact absurd rfl hl0
    | cons _ _ => simp
  have hch := Lib.hid (fun w => chunk_spot (some ⟨b, off, none⟩) row.length cc q.fan h1 w)
  have hqv : Hid (∃ cv, q.c.v = cv) := ⟨_, rfl⟩
  refine callsIn_wide.1 (show CallsIn Fence.wide 6 _ _ _ _ _ from ?_)
  refine callsIn_of_wp_marks Tryz.func20 rfl trivial ?_ rfl
  simp only [Tryz.ntmps20, List.size_toArray, List.length_cons, List.length_nil, Nat.reduceAdd, Nat.reduceSub, Array.replicate_succ, Array.replicate_zero, List.push_toArray, List.append_toArray, List.nil_append, List.cons_append]
  have S1 := ((((S.alloc (C 45 [.pointer (some ⟨s, 0, none⟩)])).alloc (C 3 [.int .i64 level])).alloc (C 48 [.slice none 0 0])).alloc (C 30 [.int .i64 0])).alloc (C 48 [.slice none 0 0])
  have hcf1 := Lib.hid (hcf.out _ (St.right (A := [_, _, _, _, _]) S1).hc)
  have hS1 := Lib.hid S1
  generalize q.c.v = cv at *
  clear S1 hcf
  gi_wp2_with fail
  refine ⟨trivial, (callsIn_wide.2 hcf1.out).mono ?_⟩
  rintro e w2 ⟨rfl, S2⟩
  have S3 := hS1.out.pure S2
  have hS3 := Lib.hid S3
  clear S2 S3 hS1 hcf1
  gi_wp2_with fail
  refine ⟨trivial, (callsIn_wide.2 (hch.out _)).mono ?_⟩
  rintro e w3 ⟨gs, gn, rfl, S4⟩
  have S3 := hS3.out.pure S4
  simp only [World.size_alloc] at S3
  gi_wp2
  obtain ⟨g3, hg3⟩ : ∃ g3, w.heap.size = g3 := ⟨_, rfl⟩
  obtain ⟨g5, hg5⟩ : ∃ g5, w.heap.size + 1 = g5 := ⟨_, rfl⟩
  obtain ⟨g6, hg6⟩ : ∃ g6, w.heap.size + 1 + 1 = g6 := ⟨_, rfl⟩
  obtain ⟨g7, hg7⟩ : ∃ g7, w.heap.size + 1 + 1 + 1 = g7 := ⟨_, rfl⟩
  obtain ⟨g8, hg8⟩ : ∃ g8, w.heap.size + 1 + 1 + 1 + 1 = g8 := ⟨_, rfl⟩
  rw [hg8] at S3 ⊢
  rw [hg7] at S3 ⊢
  rw [hg6] at S3 ⊢
  rw [hg5] at S3 ⊢
  rw [hg3] at S3 ⊢
  replace S3 : St w F w3 (avB gn gs g8 g7 g6 g5 g3 s q.fan level (.slice (some ⟨b, off, none⟩) row.length cc) (.slice none 0 0) ++ (shB q s z h k d p W made.length ++ [])) := S3.cast (by simp [avB])
  clear hS3 hch S4 hg3 hg5 hg6 hg7 hg8 hfl
  refine range_st (gf := 78) (lb := #[.pointer (some ⟨gs, 0, none⟩), .pointer (some ⟨gn, 0, none⟩)]) (n := 6) rfl (by omega) rfl trivial (enters_of Tryz.func78 (by kernel_rfl) rfl) S3
    (fun L' => ∃ ov A h' k' d' W', L' = avB gn gs g8 g7 g6 g5 g3 s q.fan level (.slice (some ⟨b, off, none⟩) row.length cc) ov ++ (shB q s z h' k' d' p W' (made.length + upN row.length q.fan) ++ A) ∧ Own eSpot 55 ov (aRow q (made.length + 1) row (upN row.length q.fan)) A ∧ ShOk q (made ++ aMade q level row (upN row.length q.fan)) h' k' d' p W') (fun _ _ => False) ?it ?done ?stop
  case stop => intro _ _ _ _ h; exact h.elim
  case done =>
    rintro D L' W1 ⟨ov, A, h', k', d', W', rfl, O, K'⟩ S2
    obtain ⟨Bo, co, rfl, _, _⟩ := O.slice
    generalize hov : (aRow q (made.length + 1) row (upN row.length q.fan)).length = no at *
    generalize hov' : Value.slice Bo no co = ov at *
    have c8 : W1.cell? ⟨g8, 0, none⟩ = some ov := S2.cell 3 rfl 0 rfl
    have f6 : W1.frozen? ⟨g6, 0, none⟩ = false := S2.frozen 5 rfl 0
    have f7 : W1.frozen? ⟨g7, 0, none⟩ = false := S2.frozen 4 rfl 0
    have c6 : W1.cell? ⟨g6, 0, none⟩ = some (.slice none 0 0) := S2.cell 5 rfl 0 rfl
    have c7 : W1.cell? ⟨g7, 0, none⟩ = some (.int .i64 0) := S2.cell 4 rfl 0 rfl
    have hne : g6 ≠ g7 := by
      intro e; subst e; rw [c6] at c7; cases c7
    have hne' : g7 ≠ g6 := hne.symm
    have S3 := ((S2.setCell 5 rfl 0 ov).setCell 4 rfl 0 (.int .i64 0))
    have hD := S3.obj 0 rfl
    have S4 := S3.turn 0 rfl (turn_putObj (.deferred none) hD)
    have q6 := S4.cell 5 rfl 0 rfl
    have q7 := S4.cell 4 rfl 0 rfl
    have S5 := St.swap (St.right (A := [_, _, _, _, _, _, _, _]) S4)
    have hE := Lib.hid (And.intro hD (And.intro q6 (And.intro q7 S5)))
    have hO := Lib.hid O
    have hK := Lib.hid K'
    subst hov'
    replace hov := Lib.hid hov
    clear S2 S3 hD S4 q6 q7 S5 O K'
    gi_wp2
    refine ⟨by simp, .inl ⟨_, _, rfl, run_takeDeferred hE.out.1, ?_⟩⟩
    exact ⟨_, results_cells2 rfl _ _ rfl rfl Tryz.underlying48 rfl Tryz.underlying30 rfl hE.out.2.1 hE.out.2.2.1, _, A, h', k', d', W', rfl, hO.out, hK.out, hE.out.2.2.2⟩
  case it =>
    intro fn W1 rec hfn hrec SW
    have hst : rec.state = .ready := by rw [hrec]
    have hpd : rec.pending = none := by rw [hrec]
    refine (chunk_iter_spot 5 (by omega) _ gs gn b off row.length cc q.fan h1 (by omega) hl hc1 hc2
      (fun i W => ∃ ov A h' k' d' W', Own eSpot 55 ov (aRow q (made.length + 1) row i) A ∧ ShOk q (made ++ aMade q level row i) h' k' d' p W' ∧
        St w F W ((w3.heap.size + 1, .loop rec) :: (w3.heap.size, .deferred (some [])) :: (avB gn gs g8 g7 g6 g5 g3 s q.fan level (.slice (some ⟨b, off, none⟩) row.length cc) ov ++ (shB q s z h' k' d' p W' (made.length + i) ++ A)))) (fun _ => False) ?box ?drew ?round W1 ?start).mono ?_
    case box => rintro i W ⟨ov, A, h', k', d', W', O, K', S⟩; exact ⟨S.cell 3 rfl 0 rfl, S.cell 2 rfl 0 rfl⟩
    case drew => rintro i W n ⟨ov, A, h', k', d', W', O, K', S⟩; exact ⟨ov, A, h', k', d', W', O, K', S.drewN n⟩
    case start => exact ⟨_, [], h, k, d, W, Own.nil _ _, by simpa [aMade] using K, SW⟩
    case round =>
      rintro i W5 ⟨ov, A, h', k', d', W', O, K', S5⟩ hlt
      have hA := congrArg Loop.assign hrec
      have hB := congrArg Loop.body hrec
      have hT := congrArg Loop.tmps hrec
      have hP := congrArg Loop.params hrec
      dsimp only at hA hB hT hP
      refine yield_st S5 0 _ rec rfl hst _ (by rw [hP]; rfl) trivial ?_
      obtain ⟨pl, hpl⟩ : ∃ pl, pl = min q.fan (row.length - i * q.fan) := ⟨_, rfl⟩
      have hpv : partV b off 3 row.length q.fan i = .slice (some ⟨b, off + i * q.fan * 3, none⟩) pl pl := by unfold partV; rw [hpl]
      rw [hA, hB, hT, hP, hpv]
      obtain ⟨w6, hbr, S6⟩ := begin_st (P := Tryz.prog) S5 0 _ rec rfl hst
      simp only [List.set_cons_zero] at S6
      have hH := Lib.hid hrec
      have hi : i < upN row.length q.fan := by
        unfold upN
        rw [Nat.lt_div_iff_mul_lt (by omega)]
        have := hlt; omega
      have hpl1 : 1 ≤ pl := by omega
      have hpl64 : pl ≤ 64 := by omega
      have hplf : pl ≤ q.fan := by omega
      have hpl2 : (aPart q row i).length = pl := by rw [aPart_len, hpl]
      have hPok : SpotsOk q.key (b0 + i * q.fan) (aPart q row i) := (hok.drop _).take _
      have hPk : ∀ x ∈ aPart q row i, KeyOk q.key x.low ∧ KeyOk q.key x.top := fun x hx => (hPok.own x hx).2
      have hPn : aPart q row i ≠ [] := by intro e; rw [e] at hpl2; simp at hpl2; omega
      have hPrange : b0 + i * q.fan + (aPart q row i).length ≤ q.blocks := by rw [hpl2]; omega
      have hgood : NdGood q (aNd q level row i) := .inr (nodeOf_ok hPok hPn (by rw [hpl2]; exact hplf) (by omega) hPrange l1 l2)
      have hrdP : ∀ W1 L, St w F W1 L → Rd eSpot W1 (.slice (some ⟨b, off + i * q.fan * 3, none⟩) pl pl) (aPart q row i) := fun W1 L S => hpv ▸ part_rd (E := eSpot) (i := i) (per := q.fan) (hrd W1 L S)
      have hcell : ∀ W1 L, St w F W1 L → ∀ j x, (aPart q row i)[j]? = some x → W1.cell? ⟨b, off + i * q.fan * 3 + j * 3, none⟩ = some (.int .u32 x.block) ∧ W1.cell? ⟨b, off + i * q.fan * 3 + j * 3 + 1, none⟩ = some (.string x.low) ∧ W1.cell? ⟨b, off + i * q.fan * 3 + j * 3 + 2, none⟩ = some (.string x.top) := by
        intro W1 L S j x hx
        obtain ⟨b1, off1, he1, hq1⟩ := (hrdP W1 L S).get hx
        injection he1 with he1; injection he1 with e1 e2; subst e1; subst e2
        exact ⟨hq1 0 _ rfl, hq1 1 _ rfl, hq1 2 _ rfl⟩
      have hml : (made ++ aMade q level row i).length = made.length + i := by rw [List.length_append, aMade_len]
      have hmk : (made ++ aMade q level row i).length + 1 < q.blocks := by rw [hml]; omega
      have hmake := Lib.hid (fun w6 kv pv hk hp H6 => shelf_make (s := s) (z := z) hs hN2 hq K' hmk (aNd q level row i) hgood (by show (List.map Spot.block (aPart q row i)).length ≤ N; rw [List.length_map, hpl2]; omega) kv pv (.slice none 0 0) (.slice none 0 0) w6 ⟨hk, hp, Rd.nil _ _, Rd.nil _ _⟩ H6)
      simp only [List.length_append, List.length_singleton, aMade_len] at hmake
      have hsp : Hid (∀ x y, (aPart q row i)[0]? = some x → (aPart q row i)[pl - 1]? = some y → aSpot q (made.length + 1) row i = ⟨made.length + i + 1, x.low, y.top⟩) := by
        intro x y hx hy
        unfold aSpot
        rw [List.headD_eq_head?_getD, List.getLastD_eq_getLast?, List.head?_eq_getElem?, hx, List.getLast?_eq_getElem?, hpl2, hy, show made.length + 1 + i = made.length + i + 1 by omega]; rfl
      have hlo : level ≤ 41 := by omega
      replace hcell := Lib.hid hcell
      have hPget : Hid (∀ j, j < pl → ∃ x, (aPart q row i)[j]? = some x) := fun j hj => ⟨_, List.getElem?_eq_getElem (by rw [hpl2]; exact hj)⟩
      have hnext := Lib.hid hPok.next
      replace hPk := Lib.hid hPk
      have hpl' := Lib.hid hpl2
      have hkids : Hid (∀ kv A1 W1, Own (eNat .u32) 53 kv (((aPart q row i).take pl).map Spot.block) A1 → HC W1 A1 → Rd (eNat .u32) W1 kv (aNd q level row i).kids) := by
        intro kv A1 W1 O H
        have := O.rd H
        rw [List.take_of_length_le (by rw [hpl2]; omega)] at this
        exact this
      have hpivs : Hid (∀ pv A1 W1, Own eStr 9 pv (pivotsOf ((aPart q row i).take pl)) A1 → HC W1 A1 → Rd eStr W1 pv (aNd q level row i).pivots) := by
        intro kv A1 W1 O H
        have := O.rd H
        rw [List.take_of_length_le (by rw [hpl2]; omega)] at this
        exact this
      have hlv : (aNd q level row i).level = level := rfl
      rw [hlv] at hmake
      clear hrec hA hB hT hP SW S5 hmk K' hpv hgood hrdP hPok hPn hPrange hpl2 hml hlv hplf
      generalize aPart q row i = P at *
      obtain ⟨o1, ho1⟩ : ∃ o1, off + i * q.fan * 3 = o1 := ⟨_, rfl⟩
      rw [ho1] at hcell ⊢
      obtain ⟨m1, hm1⟩ : ∃ m1, made.length + i = m1 := ⟨_, rfl⟩
      rw [hm1] at hmake S6
      have S6' := S6
      obtain ⟨BG, hBG⟩ : ∃ BG, (w3.heap.size + 1, Obj.loop { rec with state := .busy }) :: (w3.heap.size, .deferred (some [])) :: (avB gn gs g8 g7 g6 g5 g3 s q.fan level (.slice (some ⟨b, off, none⟩) row.length cc) ov ++ (shB q s z h' k' d' p W' m1 ++ A)) = BG := ⟨_, rfl⟩
      have c5 : w6.cell? ⟨g5, 0, none⟩ = some (.int .i64 level) := S6.cell 7 rfl 0 rfl
      rw [hBG] at S6'
      have hS6 := Lib.hid S6'
      clear S6 S6'
      generalize hR : roundPost Tryz.prog (w3.heap.size + 1) _ = RR
      have hRR := Lib.hid hR
      clear hR
      replace hpl := Lib.hid hpl
      have S7 := hS6.out.alloc (C 67 [.int .i64 level, .slice none 0 0, .slice none 0 0, .slice none 0 0, .slice none 0 0])
      have hS7 := Lib.hid S7
      clear S7
      gi_wp2
      obtain ⟨gN, hgN⟩ : ∃ gN, w6.heap.size = gN := ⟨_, rfl⟩
      rw [hgN] at hS7 ⊢
      gi_loopw [27] (fun vj wr => ∃ (j : Nat) (kv pv : Value) (A1 A2 : Blocks), vj = .int .i64 j ∧ j ≤ pl ∧ Hid (Own (eNat .u32) 53 kv ((P.take j).map Spot.block) A1 ∧ Own eStr 9 pv (pivotsOf (P.take j)) A2 ∧ St w F wr ((gN, C 67 [.int .i64 level, kv, pv, .slice none 0 0, .slice none 0 0]) :: (A1 ++ (A2 ++ BG))))) (fun vj _ => pl - (intOf vj).toNat)
      case atStart => exact ⟨0, _, _, [], [], rfl, by omega, Own.nil _ _, Own.nil _ _, hS7.out⟩
      case round =>
        obtain ⟨j, kv, pv, A1, A2, rfl, hj, hrel⟩ := hrel
        by_cases hjl : j < pl
        · obtain ⟨x, hx⟩ := hPget.out j hjl
          obtain ⟨O1, O2, Sr⟩ := hrel.out
          obtain ⟨x0, x1, x2⟩ := hcell.out wr _ Sr j x hx
          have q1 : (j : Int) < (pl : Int) := by omega
          have q2 : IntKind.i64.wrap ((j : Int) + 1) = ((j + 1 : Nat) : Int) := by rw [IntWalk.i64_in _ (by omega)]; omega
          have cN1 : wr.cell? ⟨gN, 1, none⟩ = some kv := Sr.cell 0 rfl 1 rfl
          have bN : gN < wr.heap.size := World.block_lt_of_cell? _ _ cN1
          have Sa := Sr.alloc (C 55 [.int .u32 x.block, .string x.low, .string x.top])
          have Sb : St w F (wr.alloc (C 55 [.int .u32 x.block, .string x.low, .string x.top])) (A1 ++ ((A2 ++ BG) ++ [(wr.heap.size, C 55 [.int .u32 x.block, .string x.low, .string x.top]), (gN, C 67 [.int .i64 level, kv, pv, .slice none 0 0, .slice none 0 0])])) := (St.swap (A := [_, _]) Sa).cast (by simp)
          have Sc := Sb.alloc (C 53 [.int .u32 x.block])
          rw [World.size_alloc] at Sc
          have hSc := Lib.hid Sc
          clear Sc
          have ho1 := O1.one
          have ho2 := O2.one
          have hO1 := Lib.hid O1
          have hO2 := Lib.hid O2
          have hlx : Hid (((P.take j).map Spot.block).length + 1 ≤ 2147483648 ∧ 4 ≤ 65536) := by
            show _ ∧ _; rw [List.length_map, List.length_take]; omega
          have ht1 : Hid ((P.take (j + 1)).map Spot.block = (P.take j).map Spot.block ++ [x.block]) := by show _ = _; rw [List.take_add_one, hx]; simp
          clear Sr Sa Sb O1 O2 hrel
          gi_wp2_with (gi_at_builtin; refine gil_append1 (E := eNat .u32) (A := A1) (x := x.block) hSc.out hO1.out rfl _ _ 62 rfl _ 4 Tryz.underlying62 u32_info rfl rfl rfl hlx.out ?_; intro kv2 w4 A1' O1 Sd; obtain ⟨B3, cap3, rfl, hk1, hk2⟩ := O1.slice; generalize hn9 : (List.map Spot.block (List.take j P) ++ [x.block]).length = n9 at *; replace hn9 := Lib.hid hn9; have Se := St.swap (B := [_, _]) (Sd.cast (List.append_assoc _ _ _).symm); have cN1 : w4.cell? ⟨gN, 1, none⟩ = some kv := Se.cell 1 rfl 1 rfl; have fN1 : w4.frozen? ⟨gN, 1, none⟩ = false := Se.frozen 1 rfl 1; have hO1 := Lib.hid O1; have hSf := Lib.hid (Se.setCell 1 rfl 1 (.slice B3 n9 cap3)); clear O1 Sd Se hk1 hk2)
          · rename_i h0
            have Sg : St w F (w4.setCell ⟨gN, 1, none⟩ (.slice B3 n9 cap3)) ((wr.heap.size, C 55 [.int .u32 x.block, .string x.low, .string x.top]) :: (gN, C 67 [.int .i64 level, .slice B3 n9 cap3, pv, .slice none 0 0, .slice none 0 0]) :: (A1' ++ (A2 ++ BG))) := hSf.out
            clear cN1 fN1 hSf
            generalize w4.setCell ⟨gN, 1, none⟩ (.slice B3 n9 cap3) = w5 at *
            obtain ⟨y, hy⟩ := hPget.out (j - 1) (by omega)
            obtain ⟨_, _, y2⟩ := hcell.out w5 _ Sg (j - 1) y hy
            have ck1 : w5.cell? ⟨wr.heap.size, 1, none⟩ = some (.string x.low) := Sg.cell 0 rfl 1 rfl
            have hxy : kcmp y.top x.low < 0 := hnext.out (j - 1) y x hy (by rw [show j - 1 + 1 = j by omega]; exact hx)
            have hcut := Lib.hid (fun w => lex_cut w y.top x.low hxy (by have := ((hPk.out y (List.mem_of_getElem? hy)).2).2; have := hq.k2; omega) (by have := ((hPk.out x (List.mem_of_getElem? hx)).1).2; have := hq.k2; omega))
            have p1 : ((j : Int) - 1).toNat = j - 1 := by omega
            have p2 : (0 : Int) ≤ (j : Int) - 1 := by omega
            have p3 : (j : Int) - 1 < (pl : Int) := by omega
            have p4 : IntKind.i64.wrap ((j : Int) - 1) = (j : Int) - 1 := IntWalk.i64_in _ (by omega)
            have p5 : (1 : Int) ≤ (j : Int) := by omega
            have p6 : j - 1 < pl := by omega
            have mixed : Tryz.prog.follows .mixedOrders = true := by kernel_rfl
            have hSg := Lib.hid Sg
            clear Sg
            have ht2 : Hid (pivotsOf (P.take (j + 1)) = pivotsOf (P.take j) ++ [kcut y.top x.low]) := by
              have := pivots_take (l := P) (j := j - 1) hy (by rw [show j - 1 + 1 = j by omega]; exact hx)
              rw [show j - 1 + 2 = j + 1 by omega, show j - 1 + 1 = j by omega] at this
              exact this
            have hly : Hid ((pivotsOf (P.take j)).length + 1 ≤ 2147483648 ∧ 16 ≤ 65536) := by
              show _ ∧ _; rw [pivots_len, List.length_take]; omega
            refine inR_region_any mixed (by kernel_rfl) ?_
            refine wpAny_take (i := 0) (v := ?_) rfl (by kernel_rfl) (by kernel_rfl) (by kernel_rfl) (fun _ _ _ h => h) (Or.inl ⟨by rfl, ?_⟩) ?_
            rotate_left
            focus (intro w; go_simp; with_reducible rfl)
            refine wpAny_take (i := 1) (v := ?_) rfl (by kernel_rfl) (by kernel_rfl) (by kernel_rfl) (fun _ _ _ h => h) (Or.inl ⟨by rfl, ?_⟩) ?_
            rotate_left
            focus (intro w; go_simp; with_reducible rfl)
            refine wpAny_take (i := 2) (v := ?_) rfl (by kernel_rfl) (by kernel_rfl) (by kernel_rfl) (fun _ _ _ h => h) (Or.inl ⟨by rfl, ?_⟩) ?_
            rotate_left
            focus (intro w; go_simp; with_reducible rfl)
            refine wpAny_take (i := 3) (v := ?_) rfl (by kernel_rfl) (by kernel_rfl) (by kernel_rfl) (fun _ _ _ h => h) (Or.inl ⟨by rfl, ?_⟩) ?_
            rotate_left
            focus (intro w; go_simp; with_reducible rfl)
            refine wpAny_take (i := 4) (v := ?_) rfl (by kernel_rfl) (by kernel_rfl) (by kernel_rfl) (fun _ _ _ h => h) (Or.inl ⟨by rfl, ?_⟩) ?_
            rotate_left
            focus (intro w; go_simp; with_reducible rfl)
            refine wpAny_take (i := 6) (v := ?_) rfl (by kernel_rfl) (by kernel_rfl) (by kernel_rfl) (fun _ _ _ h => h) (Or.inl ⟨by rfl, ?_⟩) ?_
            rotate_left
            focus (intro w; go_simp; with_reducible rfl)
            refine wpAny_ready (rs := [5, 7]) (by kernel_rfl) (by simp) ?_
            refine AllReady.cons rfl (fun K hK => ?_) ?_
            · go_simp
              refine hK _ _ ?_
              clear hK K
              refine wpAny_ready (rs := [7]) (by kernel_rfl) (by simp) ?_
              refine AllReady.cons rfl (fun K hK => ?_) ?_
              · go_simp
                refine hK _ _ ?_
                clear hK K
                refine wpAny_ready (rs := [8]) (by kernel_rfl) (by simp) ?_
                refine AllReady.cons rfl (fun K hK => ?_) ?_
                · go_simp
                  refine (hcut.out _).mono ?_
                  rintro e w' ⟨rfl, nq, rfl⟩
                  go_simp
                  refine hK _ _ ?_
                  clear hK K
                  refine wpAny_take (i := 9) (v := ?_) rfl (by kernel_rfl) (by kernel_rfl) (by kernel_rfl) (fun _ _ _ h => h) (Or.inl ⟨by rfl, ?_⟩) ?_
                  rotate_left
                  focus (intro w; go_simp; with_reducible rfl)
                  refine wpAny_take (i := 10) (v := ?_) rfl (by kernel_rfl) (by kernel_rfl) (by kernel_rfl) (fun _ _ _ h => h) (Or.inl ⟨by rfl, ?_⟩) ?_
                  rotate_left
                  focus (intro w; go_simp; with_reducible rfl)
                  refine wpAny_take (i := 11) (v := ?_) rfl (by kernel_rfl) (by kernel_rfl) (by kernel_rfl) (fun _ _ _ h => h) (Or.inl ⟨by rfl, ?_⟩) ?_
                  rotate_left
                  focus (intro w; go_simp; with_reducible rfl)
                  refine wpAny_take (i := 12) (v := ?_) rfl (by kernel_rfl) (by kernel_rfl) (by kernel_rfl) (fun _ _ _ h => h) (Or.inl ⟨by rfl, ?_⟩) ?_
                  rotate_left
                  focus (intro w; go_simp; with_reducible rfl)
                  refine wpAny_take (i := 13) (v := ?_) rfl (by kernel_rfl) (by kernel_rfl) (by kernel_rfl) (fun _ _ _ h => h) (Or.inl ⟨by rfl, ?_⟩) ?_
                  rotate_left
                  focus (intro w; go_simp; with_reducible rfl)
                  refine wpAny_done (by kernel_rfl) ?_ _
                  unfold calmQ
                  have cN2 : w5.cell? ⟨gN, 2, none⟩ = some pv := hSg.out.cell 1 rfl 2 rfl
                  have Sh := hSg.out.drewN (1 + nq)
                  have Si : St w F (w5.drewN (1 + nq)) (A2 ++ (((wr.heap.size, C 55 [.int .u32 x.block, .string x.low, .string x.top]) :: (gN, C 67 [.int .i64 level, .slice B3 n9 cap3, pv, .slice none 0 0, .slice none 0 0]) :: A1') ++ BG)) := St.perm (Sh.cast (by simp)) (mid_perm ((wr.heap.size, C 55 [.int .u32 x.block, .string x.low, .string x.top]) :: (gN, C 67 [.int .i64 level, .slice B3 n9 cap3, pv, .slice none 0 0, .slice none 0 0]) :: A1') A2 BG)
                  have hSj := Lib.hid (Si.alloc (C 9 [.string (kcut y.top x.low)]))
                  clear Sh Si
                  gi_wp2_with (gi_at_builtin; refine gil_append1 (E := eStr) (A := A2) (x := kcut y.top x.low) hSj.out hO2.out rfl _ _ 63 rfl _ 16 Tryz.underlying63 info_string rfl rfl rfl hly.out ?_; intro pv2 w8 A2' O3 Sk; obtain ⟨B5, cap5, rfl, hk1, hk2⟩ := O3.slice; generalize hn7 : (pivotsOf (List.take j P) ++ [kcut y.top x.low]).length = n7 at *; replace hn7 := Lib.hid hn7; have Sl := Sk.perm (mid_perm _ _ _).symm; have cN2 : w8.cell? ⟨gN, 2, none⟩ = some pv := Sl.cell 1 rfl 2 rfl; have fN2 : w8.frozen? ⟨gN, 2, none⟩ = false := Sl.frozen 1 rfl 2; have hO3 := Lib.hid O3; have hSm := Lib.hid (Sl.setCell 1 rfl 2 (.slice B5 n7 cap5)); clear O3 Sk Sl hk1 hk2)
                  refine ⟨⟨j + 1, .slice B3 n9 cap3, .slice B5 n7 cap5, A1', A2', by simp, by omega, Lib.hid ⟨?_, ?_, (St.right (A := [_]) hSm.out).cast ?_⟩⟩, by simp [intOf]; omega⟩
                  · rw [ht1.out]; exact hO1.out
                  · rw [ht2.out]; exact hO3.out
                  · rfl
                exact AllReady.nil
              exact AllReady.nil
            refine AllReady.cons rfl (fun K hK => ?_) ?_
            · go_simp
              refine hK _ _ ?_
              clear hK K
              refine wpAny_ready (rs := [5]) (by kernel_rfl) (by simp) ?_
              refine AllReady.cons rfl (fun K hK => ?_) ?_
              · go_simp
                refine hK _ _ ?_
                clear hK K
                refine wpAny_ready (rs := [8]) (by kernel_rfl) (by simp) ?_
                refine AllReady.cons rfl (fun K hK => ?_) ?_
                · go_simp
                  refine (hcut.out _).mono ?_
                  rintro e w' ⟨rfl, nq, rfl⟩
                  go_simp
                  refine hK _ _ ?_
                  clear hK K
                  refine wpAny_take (i := 9) (v := ?_) rfl (by kernel_rfl) (by kernel_rfl) (by kernel_rfl) (fun _ _ _ h => h) (Or.inl ⟨by rfl, ?_⟩) ?_
                  rotate_left
                  focus (intro w; go_simp; with_reducible rfl)
                  refine wpAny_take (i := 10) (v := ?_) rfl (by kernel_rfl) (by kernel_rfl) (by kernel_rfl) (fun _ _ _ h => h) (Or.inl ⟨by rfl, ?_⟩) ?_
                  rotate_left
                  focus (intro w; go_simp; with_reducible rfl)
                  refine wpAny_take (i := 11) (v := ?_) rfl (by kernel_rfl) (by kernel_rfl) (by kernel_rfl) (fun _ _ _ h => h) (Or.inl ⟨by rfl, ?_⟩) ?_
                  rotate_left
                  focus (intro w; go_simp; with_reducible rfl)
                  refine wpAny_take (i := 12) (v := ?_) rfl (by kernel_rfl) (by kernel_rfl) (by kernel_rfl) (fun _ _ _ h => h) (Or.inl ⟨by rfl, ?_⟩) ?_
                  rotate_left
                  focus (intro w; go_simp; with_reducible rfl)
                  refine wpAny_take (i := 13) (v := ?_) rfl (by kernel_rfl) (by kernel_rfl) (by kernel_rfl) (fun _ _ _ h => h) (Or.inl ⟨by rfl, ?_⟩) ?_
                  rotate_left
                  focus (intro w; go_simp; with_reducible rfl)
                  refine wpAny_done (by kernel_rfl) ?_ _
                  unfold calmQ
                  have cN2 : w5.cell? ⟨gN, 2, none⟩ = some pv := hSg.out.cell 1 rfl 2 rfl
                  have Sh := hSg.out.drewN (1 + nq)
                  have Si : St w F (w5.drewN (1 + nq)) (A2 ++ (((wr.heap.size, C 55 [.int .u32 x.block, .string x.low, .string x.top]) :: (gN, C 67 [.int .i64 level, .slice B3 n9 cap3, pv, .slice none 0 0, .slice none 0 0]) :: A1') ++ BG)) := St.perm (Sh.cast (by simp)) (mid_perm ((wr.heap.size, C 55 [.int .u32 x.block, .string x.low, .string x.top]) :: (gN, C 67 [.int .i64 level, .slice B3 n9 cap3, pv, .slice none 0 0, .slice none 0 0]) :: A1') A2 BG)
                  have hSj := Lib.hid (Si.alloc (C 9 [.string (kcut y.top x.low)]))
                  clear Sh Si
                  gi_wp2_with (gi_at_builtin; refine gil_append1 (E := eStr) (A := A2) (x := kcut y.top x.low) hSj.out hO2.out rfl _ _ 63 rfl _ 16 Tryz.underlying63 info_string rfl rfl rfl hly.out ?_; intro pv2 w8 A2' O3 Sk; obtain ⟨B5, cap5, rfl, hk1, hk2⟩ := O3.slice; generalize hn7 : (pivotsOf (List.take j P) ++ [kcut y.top x.low]).length = n7 at *; replace hn7 := Lib.hid hn7; have Sl := Sk.perm (mid_perm _ _ _).symm; have cN2 : w8.cell? ⟨gN, 2, none⟩ = some pv := Sl.cell 1 rfl 2 rfl; have fN2 : w8.frozen? ⟨gN, 2, none⟩ = false := Sl.frozen 1 rfl 2; have hO3 := Lib.hid O3; have hSm := Lib.hid (Sl.setCell 1 rfl 2 (.slice B5 n7 cap5)); clear O3 Sk Sl hk1 hk2)
                  refine ⟨⟨j + 1, .slice B3 n9 cap3, .slice B5 n7 cap5, A1', A2', by simp, by omega, Lib.hid ⟨?_, ?_, (St.right (A := [_]) hSm.out).cast ?_⟩⟩, by simp [intOf]; omega⟩
                  · rw [ht1.out]; exact hO1.out
                  · rw [ht2.out]; exact hO3.out
                  · rfl
                exact AllReady.nil
              exact AllReady.nil
            exact AllReady.nil
          · rename_i h0
            have hj0 : j = 0 := by omega
            subst hj0
            refine ⟨⟨1, _, pv, A1', A2, by simp, by omega, Lib.hid ⟨?_, ?_, St.right (A := [_]) hSf.out⟩⟩, by simp [intOf]; omega⟩
            · have := ht1.out
              rw [Nat.zero_add] at this
              rw [this]; exact hO1.out
            · have := hO2.out
              rw [pivots_one]
              simpa [pivotsOf] using this
        · have hjp : j = pl := by omega
          subst hjp
          obtain ⟨O1, O2, Sr⟩ := hrel.out
          have n0 : wr.cell? ⟨gN, 0, none⟩ = some (.int .i64 level) := Sr.cell 0 rfl 0 rfl
          have n1 : wr.cell? ⟨gN, 1, none⟩ = some kv := Sr.cell 0 rfl 1 rfl
          have n2 : wr.cell? ⟨gN, 2, none⟩ = some pv := Sr.cell 0 rfl 2 rfl
          have n3 : wr.cell? ⟨gN, 3, none⟩ = some (.slice none 0 0) := Sr.cell 0 rfl 3 rfl
          have n4 : wr.cell? ⟨gN, 4, none⟩ = some (.slice none 0 0) := Sr.cell 0 rfl 4 rfl
          have Sn := St.right (A := [_]) Sr
          have hk1 := hkids.out kv A1 wr O1 Sn.hc.left
          have hk2 := hpivs.out pv A2 wr O2 Sn.hc.right.left
          have Sbg := Sn.right.right
          rw [← hBG] at Sbg
          have H6 := (St.right (A := [_, _, _, _, _, _, _, _, _]) Sbg).hc.left
          have hmake1 := Lib.hid (hmake.out wr kv pv hk1 hk2 H6)
          have c3 : wr.cell? ⟨g3, 0, none⟩ = some (.pointer (some ⟨s, 0, none⟩)) := Sbg.cell 8 rfl 0 rfl
          have ho1 := O1.one
          have ho2 := O2.one
          have q1 : ¬ (j : Int) < (j : Int) := by omega
          have hSbg := Lib.hid Sbg
          clear hj hjl O1 O2 Sr Sn hk1 hk2 Sbg H6 hrel hmake hkids hpivs hBG hS6 hS7
          gi_wp2_with fail
          refine ⟨trivial, CallsIn.inRound _ ((callsIn_wide.2 hmake1.out).mono ?_)⟩
          rintro e w7 ⟨rfl, h7, k7, d7, W7, K7, S7⟩
          have S8 := ((hSbg.out.perm (mid_perm (_ :: _ :: avB gn gs g8 g7 g6 g5 g3 s q.fan level (.slice (some ⟨b, off, none⟩) row.length cc) ov) _ _)).call S7).perm (mid_perm _ _ _).symm
          obtain ⟨x, hx⟩ := hPget.out 0 (by omega)
          obtain ⟨y, hy⟩ := hPget.out (j - 1) (by omega)
          have hsp1 := hsp.out x y hx hy
          have x1 : w7.cell? ⟨b, o1 + 1, none⟩ = some (.string x.low) := by have := (hcell.out w7 _ S8 0 x hx).2.1; simpa using this
          have y1 : w7.cell? ⟨b, o1 + (j - 1) * 3 + 2, none⟩ = some (.string y.top) := (hcell.out w7 _ S8 (j - 1) y hy).2.2
          have c8 : w7.cell? ⟨g8, 0, none⟩ = some ov := S8.cell 4 rfl 0 rfl
          have f8 : w7.frozen? ⟨g8, 0, none⟩ = false := S8.frozen 4 rfl 0
          have b8 : g8 < w7.heap.size := World.block_lt_of_cell? _ _ c8
          have hS8 := Lib.hid S8
          have hpi1 : ((j : Int) - 1).toNat = j - 1 := by omega
          have hpi2 : (0 : Int) ≤ (j : Int) - 1 := by omega
          have hpi3 : (j : Int) - 1 < (j : Int) := by omega
          have hpw : IntKind.i64.wrap ((j : Int) - 1) = (j : Int) - 1 := IntWalk.i64_in _ (by omega)
          have hpp : 0 < j := by omega
          have hpp1 : (1 : Int) ≤ (j : Int) := by omega
          have hone := O.one
          clear S7 S8 hmake1 hcell hPget hnext hPk hSbg c3
          have mixed : Tryz.prog.follows .mixedOrders = true := by kernel_rfl
          have S9 := (St.swap (A := (_ :: _ :: avB gn gs g8 g7 g6 g5 g3 s q.fan level (.slice (some ⟨b, off, none⟩) row.length cc) ov) ++ shB q s z h7 k7 d7 p W7 (m1 + 1)) (B := A) (hS8.out.cast (List.append_assoc _ _ _).symm)).drew.alloc (C 55 (eSpot.enc ⟨m1 + 1, x.low, y.top⟩))
          have hS9 := Lib.hid S9
          have hlx : Hid ((aRow q (made.length + 1) row i).length + 1 ≤ 2147483648 ∧ 40 ≤ 65536) := by show _ ∧ _; rw [aRow_len]; have : upN row.length q.fan ≤ row.length := upN_le h1; omega
          have hspm : aSpot q (made.length + 1) row i = ⟨m1 + 1, x.low, y.top⟩ := by rw [hsp1, hm1]
          have fin : ∀ (w9 : World) (v9 : Value) (A9 : Blocks), Own eSpot 55 v9 (aRow q (made.length + 1) row i ++ [⟨m1 + 1, x.low, y.top⟩]) A9 → St w F w9 (((w3.heap.size + 1, Obj.loop { rec with state := .busy }) :: (w3.heap.size, .deferred (some [])) :: avB gn gs g8 g7 g6 g5 g3 s q.fan level (.slice (some ⟨b, off, none⟩) row.length cc) v9) ++ (shB q s z h7 k7 d7 p W7 (m1 + 1) ++ A9)) → ∀ ac : Act, RR .normal ac w9 := by
            intro w9 v9 A9 O9 S10 ac
            rw [← hRR.out]
            obtain ⟨w10, he10, S11⟩ := end_st (P := Tryz.prog) S10 0 _ { rec with state := .busy } rfl none
            refine ⟨_, w10, he10, .inl ⟨rfl, v9, A9, h7, k7, d7, W7, ?_, ?_, ?_⟩⟩
            · rw [aRow_succ, hspm]; exact O9
            · rw [aMade_succ, ← List.append_assoc]; exact K7
            · refine S11.cast ?_
              have e2 : ({ { rec with state := LoopState.busy } with state := if (none : Option Code).isNone then LoopState.ready else LoopState.done, pending := none } : Loop) = rec := by rw [hH.out]; rfl
              rw [List.cons_append, List.set_cons_zero, e2, show made.length + (i + 1) = m1 + 1 by omega]
              rfl
          replace fin := Lib.hid fin
          obtain ⟨v9, w9, A9, hr9, O9, S9'⟩ := run_append1 hS9.out O 48 48 _ 40 Tryz.underlying48 spot_info rfl hlx.out
          obtain ⟨B9, cap9, rfl, hq1, hq2⟩ := O9.slice
          have S10 := (St.swap (B := (_ :: _ :: avB gn gs g8 g7 g6 g5 g3 s q.fan level (.slice (some ⟨b, off, none⟩) row.length cc) ov) ++ shB q s z h7 k7 d7 p W7 (m1 + 1)) S9').cast (List.append_assoc _ _ _)
          have c11 : w9.cell? ⟨g8, 0, none⟩ = some ov := S10.cell 4 rfl 0 rfl
          have f11 : w9.frozen? ⟨g8, 0, none⟩ = false := S10.frozen 4 rfl 0
          have hS10 := Lib.hid (S10.setCell 4 rfl 0 (.slice B9 (aRow q (made.length + 1) row i ++ [(⟨m1 + 1, x.low, y.top⟩ : Spot)]).length cap9))
          generalize (aRow q (made.length + 1) row i ++ [(⟨m1 + 1, x.low, y.top⟩ : Spot)]).length = n9 at *
          replace hr9 : Sem.run Tryz.prog (Builtin.append_ #[48, 48] 48 #[ov, Value.slice (some { block := w7.heap.size, off := 0 }) 1 1]) ((w7.alloc (Obj.cells #[Value.int IntKind.u32 (↑m1 + 1), Value.string x.low, Value.string y.top] 55)).drew) = Result.ok (Value.slice B9 n9 cap9) w9 := hr9
          clear S9 S9' S10 hS8 hq1 hq2
          gi_wp2
          refine inR_region_any mixed (by kernel_rfl) ?_
          refine wpAny_take (i := 1) (v := ?_) rfl (by kernel_rfl) (by kernel_rfl) (by kernel_rfl) (fun _ _ _ h => h) (Or.inl ⟨by rfl, ?_⟩) ?_
          rotate_left
          focus (intro w; go_simp; with_reducible rfl)
          refine wpAny_take (i := 2) (v := ?_) rfl (by kernel_rfl) (by kernel_rfl) (by kernel_rfl) (fun _ _ _ h => h) (Or.inl ⟨by rfl, ?_⟩) ?_
          rotate_left
          focus (intro w; go_simp; with_reducible rfl)
          refine wpAny_take (i := 3) (v := ?_) rfl (by kernel_rfl) (by kernel_rfl) (by kernel_rfl) (fun _ _ _ h => h) (Or.inl ⟨by rfl, ?_⟩) ?_
          rotate_left
          focus (intro w; go_simp; with_reducible rfl)
          refine wpAny_take (i := 4) (v := ?_) rfl (by kernel_rfl) (by kernel_rfl) (by kernel_rfl) (fun _ _ _ h => h) (Or.inl ⟨by rfl, ?_⟩) ?_
          rotate_left
          focus (intro w; go_simp; with_reducible rfl)
          refine wpAny_take (i := 6) (v := ?_) rfl (by kernel_rfl) (by kernel_rfl) (by kernel_rfl) (fun _ _ _ h => h) (Or.inl ⟨by rfl, ?_⟩) ?_
          rotate_left
          focus (intro w; go_simp; with_reducible rfl)
          refine wpAny_take (i := 7) (v := ?_) rfl (by kernel_rfl) (by kernel_rfl) (by kernel_rfl) (fun _ _ _ h => h) (Or.inl ⟨by rfl, ?_⟩) ?_
          rotate_left
          focus (intro w; go_simp; with_reducible rfl)
          refine wpAny_ready (rs := [0, 5, 8]) (by kernel_rfl) (by simp) ?_
          refine AllReady.cons rfl (fun K hK => ?_) ?_
          · go_simp
            refine hK _ _ ?_
            clear hK K
            refine wpAny_ready (rs := [5, 8]) (by kernel_rfl) (by simp) ?_
            refine AllReady.cons rfl (fun K hK => ?_) ?_
            · go_simp
              refine hK _ _ ?_
              clear hK K
              refine wpAny_ready (rs := [8]) (by kernel_rfl) (by simp) ?_
              refine AllReady.cons rfl (fun K hK => ?_) ?_
              · go_simp
                refine hK _ _ ?_
                clear hK K
                refine wpAny_take (i := 9) (v := ?_) rfl (by kernel_rfl) (by kernel_rfl) (by kernel_rfl) (fun _ _ _ h => h) (Or.inl ⟨by rfl, ?_⟩) ?_
                rotate_left
                focus (intro w; go_simp; with_reducible rfl)
                refine wpAny_take (i := 10) (v := ?_) rfl (by kernel_rfl) (by kernel_rfl) (by kernel_rfl) (fun _ _ _ h => h) (Or.inl ⟨by rfl, ?_⟩) ?_
                rotate_left
                focus (intro w; go_simp; with_reducible rfl)
                refine wpAny_take (i := 11) (v := ?_) rfl (by kernel_rfl) (by kernel_rfl) (by kernel_rfl) (fun _ _ _ h => h) (Or.inl ⟨by rfl, ?_⟩) ?_
                rotate_left
                focus (intro w; go_simp; with_reducible rfl)
                refine wpAny_ready (rs := [12]) (by kernel_rfl) (by simp) ?_
                refine AllReady.cons rfl (fun K hK => ?_) ?_
                · go_simp
                  refine hK _ _ ?_
                  clear hK K
                  refine wpAny_take (i := 13) (v := ?_) rfl (by kernel_rfl) (by kernel_rfl) (by kernel_rfl) (fun _ _ _ h => h) (Or.inl ⟨by rfl, ?_⟩) ?_
                  rotate_left
                  focus (intro w; go_simp; with_reducible rfl)
                  refine wpAny_ready (rs := [14]) (by kernel_rfl) (by simp) ?_
                  refine AllReady.cons rfl (fun K hK => ?_) ?_
                  · go_simp
                    refine hK _ _ ?_
                    clear hK K
                    refine wpAny_ready (rs := [15]) (by kernel_rfl) (by simp) ?_
                    refine AllReady.cons rfl (fun K hK => ?_) ?_
                    · refine step_run rfl _ _ _ rfl rfl rfl hr9 ?_
                      refine hK _ _ ?_
                      clear hK K
                      refine wpAny_ready (rs := [16]) (by kernel_rfl) (by simp) ?_
                      refine AllReady.cons rfl (fun K hK => ?_) ?_
                      · go_simp
                        refine hK _ _ ?_
                        clear hK K
                        refine wpAny_done (by kernel_rfl) ?_ _
                        exact fin.out _ _ _ O9 hS10.out _
                      exact AllReady.nil
                    exact AllReady.nil
                  exact AllReady.nil
                exact AllReady.nil
              exact AllReady.nil
            refine AllReady.cons rfl (fun K hK => ?_) ?_
            · go_simp
              refine hK _ _ ?_
              clear hK K
              refine wpAny_take (i := 9) (v := ?_) rfl (by kernel_rfl) (by kernel_rfl) (by kernel_rfl) (fun _ _ _ h => h) (Or.inl ⟨by rfl, ?_⟩) ?_
              rotate_left
              focus (intro w; go_simp; with_reducible rfl)
              refine wpAny_take (i := 10) (v := ?_) rfl (by kernel_rfl) (by kernel_rfl) (by kernel_rfl) (fun _ _ _ h => h) (Or.inl ⟨by rfl, ?_⟩) ?_
              rotate_left
              focus (intro w; go_simp; with_reducible rfl)
              refine wpAny_take (i := 11) (v := ?_) rfl (by kernel_rfl) (by kernel_rfl) (by kernel_rfl) (fun _ _ _ h => h) (Or.inl ⟨by rfl, ?_⟩) ?_
              rotate_left
              focus (intro w; go_simp; with_reducible rfl)
              refine wpAny_ready (rs := [5, 12]) (by kernel_rfl) (by simp) ?_
              refine AllReady.cons rfl (fun K hK => ?_) ?_
              · go_simp
                refine hK _ _ ?_
                clear hK K
                refine wpAny_ready (rs := [12]) (by kernel_rfl) (by simp) ?_
                refine AllReady.cons rfl (fun K hK => ?_) ?_
                · go_simp
                  refine hK _ _ ?_
                  clear hK K
                  refine wpAny_take (i := 13) (v := ?_) rfl (by kernel_rfl) (by kernel_rfl) (by kernel_rfl) (fun _ _ _ h => h) (Or.inl ⟨by rfl, ?_⟩) ?_
                  rotate_left
                  focus (intro w; go_simp; with_reducible rfl)
                  refine wpAny_ready (rs := [14]) (by kernel_rfl) (by simp) ?_
                  refine AllReady.cons rfl (fun K hK => ?_) ?_
                  · go_simp
                    refine hK _ _ ?_
                    clear hK K
                    refine wpAny_ready (rs := [15]) (by kernel_rfl) (by simp) ?_
                    refine AllReady.cons rfl (fun K hK => ?_) ?_
                    · refine step_run rfl _ _ _ rfl rfl rfl hr9 ?_
                      refine hK _ _ ?_
                      clear hK K
                      refine wpAny_ready (rs := [16]) (by kernel_rfl) (by simp) ?_
                      refine AllReady.cons rfl (fun K hK => ?_) ?_
                      · go_simp
                        refine hK _ _ ?_
                        clear hK K
                        refine wpAny_done (by kernel_rfl) ?_ _
                        exact fin.out _ _ _ O9 hS10.out _
                      exact AllReady.nil
                    exact AllReady.nil
                  exact AllReady.nil
                exact AllReady.nil
              refine AllReady.cons rfl (fun K hK => ?_) ?_
              · go_simp
                refine hK _ _ ?_
                clear hK K
                refine wpAny_ready (rs := [5]) (by kernel_rfl) (by simp) ?_
                refine AllReady.cons rfl (fun K hK => ?_) ?_
                · go_simp
                  refine hK _ _ ?_
                  clear hK K
                  refine wpAny_take (i := 13) (v := ?_) rfl (by kernel_rfl) (by kernel_rfl) (by kernel_rfl) (fun _ _ _ h => h) (Or.inl ⟨by rfl, ?_⟩) ?_
                  rotate_left
                  focus (intro w; go_simp; with_reducible rfl)
                  refine wpAny_ready (rs := [14]) (by kernel_rfl) (by simp) ?_
                  refine AllReady.cons rfl (fun K hK => ?_) ?_
                  · go_simp
                    refine hK _ _ ?_
                    clear hK K
                    refine wpAny_ready (rs := [15]) (by kernel_rfl) (by simp) ?_
                    refine AllReady.cons rfl (fun K hK => ?_) ?_
                    · refine step_run rfl _ _ _ rfl rfl rfl hr9 ?_
                      refine hK _ _ ?_
                      clear hK K
                      refine wpAny_ready (rs := [16]) (by kernel_rfl) (by simp) ?_
                      refine AllReady.cons rfl (fun K hK => ?_) ?_
                      · go_simp
                        refine hK _ _ ?_
                        clear hK K
                        refine wpAny_done (by kernel_rfl) ?_ _
                        exact fin.out _ _ _ O9 hS10.out _
                      exact AllReady.nil
                    exact AllReady.nil
                  exact AllReady.nil
                exact AllReady.nil
              exact AllReady.nil
            exact AllReady.nil
          refine AllReady.cons rfl (fun K hK => ?_) ?_
          · go_simp
            refine hK _ _ ?_
            clear hK K
            refine wpAny_ready (rs := [0, 8]) (by kernel_rfl) (by simp) ?_
            refine AllReady.cons rfl (fun K hK => ?_) ?_
            · go_simp
              refine hK _ _ ?_
              clear hK K
              refine wpAny_ready (rs := [8]) (by kernel_rfl) (by simp) ?_
              refine AllReady.cons rfl (fun K hK => ?_) ?_
              · go_simp
                refine hK _ _ ?_
                clear hK K
                refine wpAny_take (i := 9) (v := ?_) rfl (by kernel_rfl) (by kernel_rfl) (by kernel_rfl) (fun _ _ _ h => h) (Or.inl ⟨by rfl, ?_⟩) ?_
                rotate_left
                focus (intro w; go_simp; with_reducible rfl)
                refine wpAny_take (i := 10) (v := ?_) rfl (by kernel_rfl) (by kernel_rfl) (by kernel_rfl) (fun _ _ _ h => h) (Or.inl ⟨by rfl, ?_⟩) ?_
                rotate_left
                focus (intro w; go_simp; with_reducible rfl)
                refine wpAny_take (i := 11) (v := ?_) rfl (by kernel_rfl) (by kernel_rfl) (by kernel_rfl) (fun _ _ _ h => h) (Or.inl ⟨by rfl, ?_⟩) ?_
                rotate_left
                focus (intro w; go_simp; with_reducible rfl)
                refine wpAny_ready (rs := [12]) (by kernel_rfl) (by simp) ?_
                refine AllReady.cons rfl (fun K hK => ?_) ?_
                · go_simp
                  refine hK _ _ ?_
                  clear hK K
                  refine wpAny_take (i := 13) (v := ?_) rfl (by kernel_rfl) (by kernel_rfl) (by kernel_rfl) (fun _ _ _ h => h) (Or.inl ⟨by rfl, ?_⟩) ?_
                  rotate_left
                  focus (intro w; go_simp; with_reducible rfl)
                  refine wpAny_ready (rs := [14]) (by kernel_rfl) (by simp) ?_
                  refine AllReady.cons rfl (fun K hK => ?_) ?_
                  · go_simp
                    refine hK _ _ ?_
                    clear hK K
                    refine wpAny_ready (rs := [15]) (by kernel_rfl) (by simp) ?_
                    refine AllReady.cons rfl (fun K hK => ?_) ?_
                    · refine step_run rfl _ _ _ rfl rfl rfl hr9 ?_
                      refine hK _ _ ?_
                      clear hK K
                      refine wpAny_ready (rs := [16]) (by kernel_rfl) (by simp) ?_
                      refine AllReady.cons rfl (fun K hK => ?_) ?_
                      · go_simp
                        refine hK _ _ ?_
                        clear hK K
                        refine wpAny_done (by kernel_rfl) ?_ _
                        exact fin.out _ _ _ O9 hS10.out _
                      exact AllReady.nil
                    exact AllReady.nil
                  exact AllReady.nil
                exact AllReady.nil
              exact AllReady.nil
            refine AllReady.cons rfl (fun K hK => ?_) ?_
            · go_simp
              refine hK _ _ ?_
              clear hK K
              refine wpAny_take (i := 9) (v := ?_) rfl (by kernel_rfl) (by kernel_rfl) (by kernel_rfl) (fun _ _ _ h => h) (Or.inl ⟨by rfl, ?_⟩) ?_
              rotate_left
              focus (intro w; go_simp; with_reducible rfl)
              refine wpAny_take (i := 10) (v := ?_) rfl (by kernel_rfl) (by kernel_rfl) (by kernel_rfl) (fun _ _ _ h => h) (Or.inl ⟨by rfl, ?_⟩) ?_
              rotate_left
              focus (intro w; go_simp; with_reducible rfl)
              refine wpAny_take (i := 11) (v := ?_) rfl (by kernel_rfl) (by kernel_rfl) (by kernel_rfl) (fun _ _ _ h => h) (Or.inl ⟨by rfl, ?_⟩) ?_
              rotate_left
              focus (intro w; go_simp; with_reducible rfl)
              refine wpAny_ready (rs := [0, 12]) (by kernel_rfl) (by simp) ?_
              refine AllReady.cons rfl (fun K hK => ?_) ?_
              · go_simp
                refine hK _ _ ?_
                clear hK K
                refine wpAny_ready (rs := [12]) (by kernel_rfl) (by simp) ?_
                refine AllReady.cons rfl (fun K hK => ?_) ?_
                · go_simp
                  refine hK _ _ ?_
                  clear hK K
                  refine wpAny_take (i := 13) (v := ?_) rfl (by kernel_rfl) (by kernel_rfl) (by kernel_rfl) (fun _ _ _ h => h) (Or.inl ⟨by rfl, ?_⟩) ?_
                  rotate_left
                  focus (intro w; go_simp; with_reducible rfl)
                  refine wpAny_ready (rs := [14]) (by kernel_rfl) (by simp) ?_
                  refine AllReady.cons rfl (fun K hK => ?_) ?_
                  · go_simp
                    refine hK _ _ ?_
                    clear hK K
                    refine wpAny_ready (rs := [15]) (by kernel_rfl) (by simp) ?_
                    refine AllReady.cons rfl (fun K hK => ?_) ?_
                    · refine step_run rfl _ _ _ rfl rfl rfl hr9 ?_
                      refine hK _ _ ?_
                      clear hK K
                      refine wpAny_ready (rs := [16]) (by kernel_rfl) (by simp) ?_
                      refine AllReady.cons rfl (fun K hK => ?_) ?_
                      · go_simp
                        refine hK _ _ ?_
                        clear hK K
                        refine wpAny_done (by kernel_rfl) ?_ _
                        exact fin.out _ _ _ O9 hS10.out _
                      exact AllReady.nil
                    exact AllReady.nil
                  exact AllReady.nil
                exact AllReady.nil
              refine AllReady.cons rfl (fun K hK => ?_) ?_
              · go_simp
                refine hK _ _ ?_
                clear hK K
                refine wpAny_take (i := 13) (v := ?_) rfl (by kernel_rfl) (by kernel_rfl) (by kernel_rfl) (fun _ _ _ h => h) (Or.inl ⟨by rfl, ?_⟩) ?_
                rotate_left
                focus (intro w; go_simp; with_reducible rfl)
                refine wpAny_ready (rs := [0, 14]) (by kernel_rfl) (by simp) ?_
                refine AllReady.cons rfl (fun K hK => ?_) ?_
                · go_simp
                  refine hK _ _ ?_
                  clear hK K
                  refine wpAny_ready (rs := [14]) (by kernel_rfl) (by simp) ?_
                  refine AllReady.cons rfl (fun K hK => ?_) ?_
                  · go_simp
                    refine hK _ _ ?_
                    clear hK K
                    refine wpAny_ready (rs := [15]) (by kernel_rfl) (by simp) ?_
                    refine AllReady.cons rfl (fun K hK => ?_) ?_
                    · refine step_run rfl _ _ _ rfl rfl rfl hr9 ?_
                      refine hK _ _ ?_
                      clear hK K
                      refine wpAny_ready (rs := [16]) (by kernel_rfl) (by simp) ?_
                      refine AllReady.cons rfl (fun K hK => ?_) ?_
                      · go_simp
                        refine hK _ _ ?_
                        clear hK K
                        refine wpAny_done (by kernel_rfl) ?_ _
                        exact fin.out _ _ _ O9 hS10.out _
                      exact AllReady.nil
                    exact AllReady.nil
                  exact AllReady.nil
                refine AllReady.cons rfl (fun K hK => ?_) ?_
                · go_simp
                  refine hK _ _ ?_
                  clear hK K
                  refine wpAny_ready (rs := [0]) (by kernel_rfl) (by simp) ?_
                  refine AllReady.cons rfl (fun K hK => ?_) ?_
                  · go_simp
                    refine hK _ _ ?_
                    clear hK K
                    refine wpAny_ready (rs := [15]) (by kernel_rfl) (by simp) ?_
                    refine AllReady.cons rfl (fun K hK => ?_) ?_
                    · refine step_run rfl _ _ _ rfl rfl rfl hr9 ?_
                      refine hK _ _ ?_
                      clear hK K
                      refine wpAny_ready (rs := [16]) (by kernel_rfl) (by simp) ?_
                      refine AllReady.cons rfl (fun K hK => ?_) ?_
                      · go_simp
                        refine hK _ _ ?_
                        clear hK K
                        refine wpAny_done (by kernel_rfl) ?_ _
                        exact fin.out _ _ _ O9 hS10.out _
                      exact AllReady.nil
                    exact AllReady.nil
                  exact AllReady.nil
                exact AllReady.nil
              exact AllReady.nil
            exact AllReady.nil
          refine AllReady.cons rfl (fun K hK => ?_) ?_
          · go_simp
            refine hK _ _ ?_
            clear hK K
            refine wpAny_take (i := 9) (v := ?_) rfl (by kernel_rfl) (by kernel_rfl) (by kernel_rfl) (fun _ _ _ h => h) (Or.inl ⟨by rfl, ?_⟩) ?_
            rotate_left
            focus (intro w; go_simp; with_reducible rfl)
            refine wpAny_take (i := 10) (v := ?_) rfl (by kernel_rfl) (by kernel_rfl) (by kernel_rfl) (fun _ _ _ h => h) (Or.inl ⟨by rfl, ?_⟩) ?_
            rotate_left
            focus (intro w; go_simp; with_reducible rfl)
            refine wpAny_take (i := 11) (v := ?_) rfl (by kernel_rfl) (by kernel_rfl) (by kernel_rfl) (fun _ _ _ h => h) (Or.inl ⟨by rfl, ?_⟩) ?_
            rotate_left
            focus (intro w; go_simp; with_reducible rfl)
            refine wpAny_ready (rs := [0, 5, 12]) (by kernel_rfl) (by simp) ?_
            refine AllReady.cons rfl (fun K hK => ?_) ?_
            · go_simp
              refine hK _ _ ?_
              clear hK K
              refine wpAny_ready (rs := [5, 12]) (by kernel_rfl) (by simp) ?_
              refine AllReady.cons rfl (fun K hK => ?_) ?_
              · go_simp
                refine hK _ _ ?_
                clear hK K
                refine wpAny_ready (rs := [12]) (by kernel_rfl) (by simp) ?_
                refine AllReady.cons rfl (fun K hK => ?_) ?_
                · go_simp
                  refine hK _ _ ?_
                  clear hK K
                  refine wpAny_take (i := 13) (v := ?_) rfl (by kernel_rfl) (by kernel_rfl) (by kernel_rfl) (fun _ _ _ h => h) (Or.inl ⟨by rfl, ?_⟩) ?_
                  rotate_left
                  focus (intro w; go_simp; with_reducible rfl)
                  refine wpAny_ready (rs := [14]) (by kernel_rfl) (by simp) ?_
                  refine AllReady.cons rfl (fun K hK => ?_) ?_
                  · go_simp
                    refine hK _ _ ?_
                    clear hK K
                    refine wpAny_ready (rs := [15]) (by kernel_rfl) (by simp) ?_
                    refine AllReady.cons rfl (fun K hK => ?_) ?_
                    · refine step_run rfl _ _ _ rfl rfl rfl hr9 ?_
                      refine hK _ _ ?_
                      clear hK K
                      refine wpAny_ready (rs := [16]) (by kernel_rfl) (by simp) ?_
                      refine AllReady.cons rfl (fun K hK => ?_) ?_
                      · go_simp
                        refine hK _ _ ?_
                        clear hK K
                        refine wpAny_done (by kernel_rfl) ?_ _
                        exact fin.out _ _ _ O9 hS10.out _
                      exact AllReady.nil
                    exact AllReady.nil
                  exact AllReady.nil
                exact AllReady.nil
              refine AllReady.cons rfl (fun K hK => ?_) ?_
              · go_simp
                refine hK _ _ ?_
                clear hK K
                refine wpAny_ready (rs := [5]) (by kernel_rfl) (by simp) ?_
                refine AllReady.cons rfl (fun K hK => ?_) ?_
                · go_simp
                  refine hK _ _ ?_
                  clear hK K
                  refine wpAny_take (i := 13) (v := ?_) rfl (by kernel_rfl) (by kernel_rfl) (by kernel_rfl) (fun _ _ _ h => h) (Or.inl ⟨by rfl, ?_⟩) ?_
                  rotate_left
                  focus (intro w; go_simp; with_reducible rfl)
                  refine wpAny_ready (rs := [14]) (by kernel_rfl) (by simp) ?_
                  refine AllReady.cons rfl (fun K hK => ?_) ?_
                  · go_simp
                    refine hK _ _ ?_
                    clear hK K
                    refine wpAny_ready (rs := [15]) (by kernel_rfl) (by simp) ?_
                    refine AllReady.cons rfl (fun K hK => ?_) ?_
                    · refine step_run rfl _ _ _ rfl rfl rfl hr9 ?_
                      refine hK _ _ ?_
                      clear hK K
                      refine wpAny_ready (rs := [16]) (by kernel_rfl) (by simp) ?_
                      refine AllReady.cons rfl (fun K hK => ?_) ?_
                      · go_simp
                        refine hK _ _ ?_
                        clear hK K
                        refine wpAny_done (by kernel_rfl) ?_ _
                        exact fin.out _ _ _ O9 hS10.out _
                      exact AllReady.nil
                    exact AllReady.nil
                  exact AllReady.nil
                exact AllReady.nil
              exact AllReady.nil
            refine AllReady.cons rfl (fun K hK => ?_) ?_
            · go_simp
              refine hK _ _ ?_
              clear hK K
              refine wpAny_ready (rs := [0, 12]) (by kernel_rfl) (by simp) ?_
              refine AllReady.cons rfl (fun K hK => ?_) ?_
              · go_simp
                refine hK _ _ ?_
                clear hK K
                refine wpAny_ready (rs := [12]) (by kernel_rfl) (by simp) ?_
                refine AllReady.cons rfl (fun K hK => ?_) ?_
                · go_simp
                  refine hK _ _ ?_
                  clear hK K
                  refine wpAny_take (i := 13) (v := ?_) rfl (by kernel_rfl) (by kernel_rfl) (by kernel_rfl) (fun _ _ _ h => h) (Or.inl ⟨by rfl, ?_⟩) ?_
                  rotate_left
                  focus (intro w; go_simp; with_reducible rfl)
                  refine wpAny_ready (rs := [14]) (by kernel_rfl) (by simp) ?_
                  refine AllReady.cons rfl (fun K hK => ?_) ?_
                  · go_simp
                    refine hK _ _ ?_
                    clear hK K
                    refine wpAny_ready (rs := [15]) (by kernel_rfl) (by simp) ?_
                    refine AllReady.cons rfl (fun K hK => ?_) ?_
                    · refine step_run rfl _ _ _ rfl rfl rfl hr9 ?_
                      refine hK _ _ ?_
                      clear hK K
                      refine wpAny_ready (rs := [16]) (by kernel_rfl) (by simp) ?_
                      refine AllReady.cons rfl (fun K hK => ?_) ?_
                      · go_simp
                        refine hK _ _ ?_
                        clear hK K
                        refine wpAny_done (by kernel_rfl) ?_ _
                        exact fin.out _ _ _ O9 hS10.out _
                      exact AllReady.nil
                    exact AllReady.nil
                  exact AllReady.nil
                exact AllReady.nil
              refine AllReady.cons rfl (fun K hK => ?_) ?_
              · go_simp
                refine hK _ _ ?_
                clear hK K
                refine wpAny_take (i := 13) (v := ?_) rfl (by kernel_rfl) (by kernel_rfl) (by kernel_rfl) (fun _ _ _ h => h) (Or.inl ⟨by rfl, ?_⟩) ?_
                rotate_left
                focus (intro w; go_simp; with_reducible rfl)
                refine wpAny_ready (rs := [0, 14]) (by kernel_rfl) (by simp) ?_
                refine AllReady.cons rfl (fun K hK => ?_) ?_
                · go_simp
                  refine hK _ _ ?_
                  clear hK K
                  refine wpAny_ready (rs := [14]) (by kernel_rfl) (by simp) ?_
                  refine AllReady.cons rfl (fun K hK => ?_) ?_
                  · go_simp
                    refine hK _ _ ?_
                    clear hK K
                    refine wpAny_ready (rs := [15]) (by kernel_rfl) (by simp) ?_
                    refine AllReady.cons rfl (fun K hK => ?_) ?_
                    · refine step_run rfl _ _ _ rfl rfl rfl hr9 ?_
                      refine hK _ _ ?_
                      clear hK K
                      refine wpAny_ready (rs := [16]) (by kernel_rfl) (by simp) ?_
                      refine AllReady.cons rfl (fun K hK => ?_) ?_
                      · go_simp
                        refine hK _ _ ?_
                        clear hK K
                        refine wpAny_done (by kernel_rfl) ?_ _
                        exact fin.out _ _ _ O9 hS10.out _
                      exact AllReady.nil
                    exact AllReady.nil
                  exact AllReady.nil
                refine AllReady.cons rfl (fun K hK => ?_) ?_
                · go_simp
                  refine hK _ _ ?_
                  clear hK K
                  refine wpAny_ready (rs := [0]) (by kernel_rfl) (by simp) ?_
                  refine AllReady.cons rfl (fun K hK => ?_) ?_
                  · go_simp
                    refine hK _ _ ?_
                    clear hK K
                    refine wpAny_ready (rs := [15]) (by kernel_rfl) (by simp) ?_
                    refine AllReady.cons rfl (fun K hK => ?_) ?_
                    · refine step_run rfl _ _ _ rfl rfl rfl hr9 ?_
                      refine hK _ _ ?_
                      clear hK K
                      refine wpAny_ready (rs := [16]) (by kernel_rfl) (by simp) ?_
                      refine AllReady.cons rfl (fun K hK => ?_) ?_
                      · go_simp
                        refine hK _ _ ?_
                        clear hK K
                        refine wpAny_done (by kernel_rfl) ?_ _
                        exact fin.out _ _ _ O9 hS10.out _
                      exact AllReady.nil
                    exact AllReady.nil
                  exact AllReady.nil
                exact AllReady.nil
              exact AllReady.nil
            refine AllReady.cons rfl (fun K hK => ?_) ?_
            · go_simp
              refine hK _ _ ?_
              clear hK K
              refine wpAny_ready (rs := [0, 5]) (by kernel_rfl) (by simp) ?_
              refine AllReady.cons rfl (fun K hK => ?_) ?_
              · go_simp
                refine hK _ _ ?_
                clear hK K
                refine wpAny_ready (rs := [5]) (by kernel_rfl) (by simp) ?_
                refine AllReady.cons rfl (fun K hK => ?_) ?_
                · go_simp
                  refine hK _ _ ?_
                  clear hK K
                  refine wpAny_take (i := 13) (v := ?_) rfl (by kernel_rfl) (by kernel_rfl) (by kernel_rfl) (fun _ _ _ h => h) (Or.inl ⟨by rfl, ?_⟩) ?_
                  rotate_left
                  focus (intro w; go_simp; with_reducible rfl)
                  refine wpAny_ready (rs := [14]) (by kernel_rfl) (by simp) ?_
                  refine AllReady.cons rfl (fun K hK => ?_) ?_
                  · go_simp
                    refine hK _ _ ?_
                    clear hK K
                    refine wpAny_ready (rs := [15]) (by kernel_rfl) (by simp) ?_
                    refine AllReady.cons rfl (fun K hK => ?_) ?_
                    · refine step_run rfl _ _ _ rfl rfl rfl hr9 ?_
                      refine hK _ _ ?_
                      clear hK K
                      refine wpAny_ready (rs := [16]) (by kernel_rfl) (by simp) ?_
                      refine AllReady.cons rfl (fun K hK => ?_) ?_
                      · go_simp
                        refine hK _ _ ?_
                        clear hK K
                        refine wpAny_done (by kernel_rfl) ?_ _
                        exact fin.out _ _ _ O9 hS10.out _
                      exact AllReady.nil
                    exact AllReady.nil
                  exact AllReady.nil
                exact AllReady.nil
              refine AllReady.cons rfl (fun K hK => ?_) ?_
              · go_simp
                refine hK _ _ ?_
                clear hK K
                refine wpAny_take (i := 13) (v := ?_) rfl (by kernel_rfl) (by kernel_rfl) (by kernel_rfl) (fun _ _ _ h => h) (Or.inl ⟨by rfl, ?_⟩) ?_
                rotate_left
                focus (intro w; go_simp; with_reducible rfl)
                refine wpAny_ready (rs := [0, 14]) (by kernel_rfl) (by simp) ?_
                refine AllReady.cons rfl (fun K hK => ?_) ?_
                · go_simp
                  refine hK _ _ ?_
                  clear hK K
                  refine wpAny_ready (rs := [14]) (by kernel_rfl) (by simp) ?_
                  refine AllReady.cons rfl (fun K hK => ?_) ?_
                  · go_simp
                    refine hK _ _ ?_
                    clear hK K
                    refine wpAny_ready (rs := [15]) (by kernel_rfl) (by simp) ?_
                    refine AllReady.cons rfl (fun K hK => ?_) ?_
                    · refine step_run rfl _ _ _ rfl rfl rfl hr9 ?_
                      refine hK _ _ ?_
                      clear hK K
                      refine wpAny_ready (rs := [16]) (by kernel_rfl) (by simp) ?_
                      refine AllReady.cons rfl (fun K hK => ?_) ?_
                      · go_simp
                        refine hK _ _ ?_
                        clear hK K
                        refine wpAny_done (by kernel_rfl) ?_ _
                        exact fin.out _ _ _ O9 hS10.out _
                      exact AllReady.nil
                    exact AllReady.nil
                  exact AllReady.nil
                refine AllReady.cons rfl (fun K hK => ?_) ?_
                · go_simp
                  refine hK _ _ ?_
                  clear hK K
                  refine wpAny_ready (rs := [0]) (by kernel_rfl) (by simp) ?_
                  refine AllReady.cons rfl (fun K hK => ?_) ?_
                  · go_simp
                    refine hK _ _ ?_
                    clear hK K
                    refine wpAny_ready (rs := [15]) (by kernel_rfl) (by simp) ?_
                    refine AllReady.cons rfl (fun K hK => ?_) ?_
                    · refine step_run rfl _ _ _ rfl rfl rfl hr9 ?_
                      refine hK _ _ ?_
                      clear hK K
                      refine wpAny_ready (rs := [16]) (by kernel_rfl) (by simp) ?_
                      refine AllReady.cons rfl (fun K hK => ?_) ?_
                      · go_simp
                        refine hK _ _ ?_
                        clear hK K
                        refine wpAny_done (by kernel_rfl) ?_ _
                        exact fin.out _ _ _ O9 hS10.out _
                      exact AllReady.nil
                    exact AllReady.nil
                  exact AllReady.nil
                exact AllReady.nil
              exact AllReady.nil
            exact AllReady.nil
          exact AllReady.nil
    · rintro e W' ⟨hv', ⟨m, hm1, hm2, ov, A, h', k', d', W'', O, K', S⟩ | hx⟩
      · have hmm := upN_of h1 hm1 hm2 hlen1
        subst hmm
        exact ⟨hv', rec, _, by rw [hst]; simp, S, .inl ⟨hpd, ov, A, h', k', d', W'', rfl, O, K'⟩⟩
      · exact hx.elim
end
end Go.Proofs.YtnobknmhffaoeaaGreatDoor
