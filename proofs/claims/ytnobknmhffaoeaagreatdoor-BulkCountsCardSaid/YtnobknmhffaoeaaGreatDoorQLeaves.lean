/- bulk.leaves: the leaves are laid. -/
import Derived.Test.YtnobknmhffaoeaaGreatDoorQChunk
set_option linter.unusedVariables false
set_option linter.unusedSimpArgs false
namespace Go.Proofs.YtnobknmhffaoeaaGreatDoor
open Go.RowKit
attribute [local go_sem] Oper.semAt_some
section
variable {P : Program} {α : Type} {X : Lay α} {e : Nat} {w0 w : World} {F : Nat → Prop} {xs : List α} {A R : Blocks} {ops : Array Oper} {o : Oper} {a : Act} {K : Act → World → Prop} {Q : Exit → Act → World → Prop} {E : Prop} {Fe : Fence} {n : Nat}
/-- append of one element that was just built: the run itself. -/
theorem run_append1 {g : Nat} {x : α} {v : Value} (S : St w0 F w ((g, C e (X.enc x)) :: (A ++ R))) (O : Own X e v xs A) (t ty : Nat) (z : Value) (by_ : Nat) (ht : P.underlying t = some (.slice e))
    (hinfo : (P.info? e).map (fun i => (i.zero, i.size, i.bytes)) = some (some z, X.sz, by_)) (hz : z.cells.size = X.sz) (hb : xs.length + 1 ≤ 2147483648 ∧ by_ ≤ 65536) :
    ∃ v' w' A', (Builtin.append_ #[t, t] ty #[v, .slice (some ⟨g, 0, none⟩) 1 1]).run P w = .ok v' w' ∧ Own X e v' (xs ++ [x]) A' ∧ St w0 F w' (A' ++ R) := by
  obtain ⟨i, hi, hz0, hz1, hz2⟩ := info_parts hinfo
  have S' := S.front
  have hgb := S.hc.at_ 0 (k := g) (o := C e (X.enc x)) rfl
  have hbytes : (xs.length + 1) * by_ ≤ 140737488355328 := by
    have := Nat.mul_le_mul hb.1 hb.2
    omega
  obtain ⟨v', w', hr, h2, h3, _, h5⟩ := run_append_own_at (P := P) w 0 t ty e i z X.sz by_ ht hi hz0 hz1 hz2 hz X.pos v xs.length (X.all xs) (O.owns S'.hc.left) ⟨g, 0, none⟩ 1 1 (X.enc x) (by rw [X.len, Nat.one_mul])
    (fun j u hj => by
      have : (⟨g, 0, none⟩ : Addr).add j = ⟨g, j, none⟩ := by unfold Addr.add; split <;> simp_all
      rw [this, cell_of_row w g j _ e (0, 0) hgb]; simpa using hj) (X.one x) (by simp only [maxLen]; omega) hbytes (Nat.zero_le _)
  have e1 : X.all xs ++ X.enc x = X.all (xs ++ [x]) := by rw [X.all_append]; simp [Lay.all]
  rw [e1] at h2
  obtain ⟨A', O', S2⟩ := S'.grown O h2 (by simp) h3 h5
  exact ⟨v', w', A', hr, O', S2.drop⟩
end
def partL (per : Nat) (l : List Pr) (i : Nat) : List Pr := (l.drop (i * per)).take per
def leafNd (l : List Pr) : Nd := ⟨0, [], [], [], l⟩
def noP : Pr := ⟨⟨#[]⟩, ⟨#[]⟩⟩
def spotOf (per : Nat) (l : List Pr) (i : Nat) : Spot := ⟨i + 1, ((partL per l i).headD noP).key, ((partL per l i).getLastD noP).key⟩
def leafRow (per : Nat) (l : List Pr) (m : Nat) : List Spot := (List.range m).map (spotOf per l)
def leafMade (q : Cn) (per : Nat) (l : List Pr) (m : Nat) : List (List UInt8) := (List.range m).map fun i => blkL q (leafNd (partL per l i))
theorem leafMade_succ (q : Cn) (per : Nat) (l : List Pr) (m : Nat) : leafMade q per l (m + 1) = leafMade q per l m ++ [blkL q (leafNd (partL per l m))] := by simp [leafMade, List.range_succ]
theorem leafRow_succ (per : Nat) (l : List Pr) (m : Nat) : leafRow per l (m + 1) = leafRow per l m ++ [spotOf per l m] := by simp [leafRow, List.range_succ]
theorem leafMade_len (q : Cn) (per : Nat) (l : List Pr) (m : Nat) : (leafMade q per l m).length = m := by simp [leafMade]
theorem leafRow_len (per : Nat) (l : List Pr) (m : Nat) : (leafRow per l m).length = m := by simp [leafRow]
theorem rise_sub {l l' : List ByteArray} (h : Rise l) (n m : Nat) : Rise ((l.drop n).take m) := by
  intro i a b ha hb
  have h1 := take_get ha
  have h2 := take_get hb
  rw [List.getElem?_drop] at h1 h2
  exact h (n + i) a b h1 (by rw [← h2]; congr 1)
theorem part_good {q : Cn} {per : Nat} {l : List Pr} (hup : Rise (l.map Pr.key)) (he : ∀ p ∈ l, PairOk q.key q.val p) (hp : per ≤ q.leaf) (i : Nat) : NdGood q (leafNd (partL per l i)) := by
  refine .inl ⟨rfl, rfl, rfl, rfl, ⟨?_, ?_, fun p hp => he p ?_⟩⟩
  · show (partL per l i).length ≤ q.leaf
    unfold partL; rw [List.length_take]; omega
  · show Rise ((partL per l i).map Pr.key)
    unfold partL
    rw [List.map_take, List.map_drop]
    exact rise_sub (l' := []) hup _ _
  · exact List.mem_of_mem_drop (List.mem_of_mem_take hp)
theorem part_len {per : Nat} {l : List Pr} (i : Nat) : (partL per l i).length = min per (l.length - i * per) := by unfold partL; simp
theorem spot_info : (Tryz.prog.info? 55).map (fun i => (i.zero, i.size, i.bytes)) = some (some (.agg #[.int .u32 0, noS, noS]), 3, 40) := by kernel_rfl
section
variable {q : Cn} {s : Nat} {z : CAt} {h : CH} {k : Cm} {d : Dv} {p : PAt} {W : List Nat}
def lvB (gn gs g10 g7 g6 g3 s per : Nat) (lv ov : Value) : Blocks :=
  [(gn, C 3 [.int .i64 per]), (gs, C 24 [lv]), (g10, C 48 [ov]), (g7, C 30 [.int .i64 0]), (g6, C 48 [.slice none 0 0]), (g3, C 45 [.pointer (some ⟨s, 0, none⟩)])]
theorem upN_of {n per m : Nat} (hp : 1 ≤ per) (h1 : n ≤ m * per) (h2 : m = 0 ∨ (m - 1) * per < n) (hn : 1 ≤ n) : m = upN n per := by
  have hm : 1 ≤ m := by
    rcases Nat.eq_zero_or_pos m with rfl | h
    · omega
    · exact h
  obtain ⟨j, rfl⟩ : ∃ j, m = j + 1 := ⟨m - 1, by omega⟩
  have h3 : j * per < n := by
    rcases h2 with h | h
    · omega
    · simpa using h
  unfold upN
  rw [Nat.add_mul] at h1
  exact (Nat.div_eq_of_lt_le (by rw [Nat.add_mul]; omega) (by rw [Nat.add_mul, Nat.add_mul]; omega)).symm
set_option maxRecDepth 100000 in
set_option maxHeartbeats 6000000 in
theorem bulk_leaves {N : Nat} (hs : SortU32 N) (hN2 : N ≤ 100000) (hq : q.Good) (K : ShOk q [] h k d p W) (per : Nat) (h1 : 1 ≤ per) (h2 : per ≤ q.leaf) (v : Value) (l : List Pr) (hl0 : l ≠ []) (hl : l.length ≤ 100000) (hup : Rise (l.map Pr.key)) (he : ∀ p ∈ l, PairOk q.key q.val p)
    (hm : upN l.length per < q.blocks) (w : World) (H : HC w (shB q s z h k d p W 0)) (hrd : ∀ W1 L, St w (FP w (shB q s z h k d p W 0)) W1 L → Rd ePr W1 v l) :
    Calls Tryz.prog 19 #[.pointer (some ⟨s, 0, none⟩), v, .int .i64 per] w fun e w' => ∃ rv A h' k' d' W', e = .returned (.tuple #[rv, .int .i64 0]) ∧ Own eSpot 55 rv (leafRow per l (upN l.length per)) A ∧ ShOk q (leafMade q per l (upN l.length per)) h' k' d' p W' ∧
      St w (FP w (shB q s z h k d p W 0)) w' (A ++ shB q s z h' k' d' p W' (upN l.length per)) := by
  have S := H.st
  have hl2 := hq.l2
  generalize FP w (shB q s z h k d p W 0) = F at *
  obtain ⟨B, cc, hv, hb1, hb2⟩ := (hrd w _ S).slice
  have hB : ∃ b off, B = some ⟨b, off, none⟩ := by
    cases l with
    | nil => exact absurd rfl hl0
    | cons x l =>
      obtain ⟨b, off, h, _⟩ := (hv ▸ hrd w _ S).get (j := 0) (x := x) rfl
      exact ⟨b, off, h⟩
  obtain ⟨b, off, rfl⟩ := hB
  rw [hv] at hrd ⊢
  have hlen1 : 1 ≤ l.length := by cases l with
    | nil => exact absurd rfl hl0
    | cons _ _ => simp
  have k0 : ((l.length : Int) == 0) = false := by rw [beq_eq_false_iff_ne]; omega
  have hch := Lib.hid (fun w => chunk_pair (some ⟨b, off, none⟩) l.length cc per h1 w)
  refine callsIn_wide.1 (show CallsIn Fence.wide 6 _ _ _ _ _ from ?_)
  refine callsIn_of_wp_marks Tryz.func19 rfl trivial ?_ rfl
  simp only [Tryz.ntmps19, List.size_toArray, List.length_cons, List.length_nil, Nat.reduceAdd, Nat.reduceSub, Array.replicate_succ, Array.replicate_zero, List.push_toArray, List.append_toArray, List.nil_append, List.cons_append]
  have S1 := (((S.alloc (C 45 [.pointer (some ⟨s, 0, none⟩)])).alloc (C 48 [.slice none 0 0])).alloc (C 30 [.int .i64 0])).alloc (C 48 [.slice none 0 0])
  have hS1 := Lib.hid S1
  clear S1
  gi_wp2_with fail
  refine ⟨trivial, (callsIn_wide.2 (hch.out _)).mono ?_⟩
  rintro e w2 ⟨gs, gn, rfl, S2⟩
  have S3 := hS1.out.pure S2
  simp only [World.size_alloc] at S3
  gi_wp2
  obtain ⟨g3, hg3⟩ : ∃ g3, w.heap.size = g3 := ⟨_, rfl⟩
  obtain ⟨g6, hg6⟩ : ∃ g6, w.heap.size + 1 = g6 := ⟨_, rfl⟩
  obtain ⟨g7, hg7⟩ : ∃ g7, w.heap.size + 1 + 1 = g7 := ⟨_, rfl⟩
  obtain ⟨g10, hg10⟩ : ∃ g10, w.heap.size + 1 + 1 + 1 = g10 := ⟨_, rfl⟩
  rw [hg10] at S3 ⊢
  rw [hg7] at S3 ⊢
  rw [hg6] at S3 ⊢
  rw [hg3] at S3 ⊢
  replace S3 : St w F w2 (lvB gn gs g10 g7 g6 g3 s per (.slice (some ⟨b, off, none⟩) l.length cc) (.slice none 0 0) ++ (shB q s z h k d p W 0 ++ [])) := S3.cast (by simp [lvB])
  clear hS1 hch S2 hg3 hg6 hg7 hg10
  refine range_st (gf := 77) (lb := #[.pointer (some ⟨gs, 0, none⟩), .pointer (some ⟨gn, 0, none⟩)]) (n := 6) rfl (by omega) rfl trivial (enters_of Tryz.func77 (by kernel_rfl) rfl) S3
    (fun L' => ∃ ov A h' k' d' W', L' = lvB gn gs g10 g7 g6 g3 s per (.slice (some ⟨b, off, none⟩) l.length cc) ov ++ (shB q s z h' k' d' p W' (upN l.length per) ++ A) ∧ Own eSpot 55 ov (leafRow per l (upN l.length per)) A ∧ ShOk q (leafMade q per l (upN l.length per)) h' k' d' p W') (fun _ _ => False) ?it ?done ?stop
  case stop => intro _ _ _ _ h; exact h.elim
  case done =>
    rintro D L' W1 ⟨ov, A, h', k', d', W', rfl, O, K'⟩ S2
    obtain ⟨Bo, co, rfl, _, _⟩ := O.slice
    generalize hov : (leafRow per l (upN l.length per)).length = no at *
    generalize hov' : Value.slice Bo no co = ov at *
    have c10 : W1.cell? ⟨g10, 0, none⟩ = some ov := S2.cell 3 rfl 0 rfl
    have f6 : W1.frozen? ⟨g6, 0, none⟩ = false := S2.frozen 5 rfl 0
    have f7 : W1.frozen? ⟨g7, 0, none⟩ = false := S2.frozen 4 rfl 0
    have c6 : W1.cell? ⟨g6, 0, none⟩ = some (.slice none 0 0) := S2.cell 5 rfl 0 rfl
    have c7 : W1.cell? ⟨g7, 0, none⟩ = some (.int .i64 0) := S2.cell 4 rfl 0 rfl
    have hne : g6 ≠ g7 := by
      intro e; subst e; rw [c6] at c7; cases c7
    have hne' : g7 ≠ g6 := hne.symm
    have S3 := ((S2.setCell 5 rfl 0 ov).setCell 4 rfl 0 (.int .i64 0))
    have hD := S3.obj 0 rfl
    have S4 := S3.turn 0 rfl (turn_putObj (.deferred none) hD)
    have q6 := S4.cell 5 rfl 0 rfl
    have q7 := S4.cell 4 rfl 0 rfl
    have S5 := St.swap (St.right (A := [_, _, _, _, _, _, _]) S4)
    have hE := Lib.hid (And.intro hD (And.intro q6 (And.intro q7 S5)))
    have hO := Lib.hid O
    have hK := Lib.hid K'
    subst hov'
    replace hov := Lib.hid hov
    clear S2 S3 hD S4 q6 q7 S5 O K'
    gi_wp2
    refine ⟨by simp, .inl ⟨_, _, rfl, run_takeDeferred hE.out.1, ?_⟩⟩
    exact ⟨_, results_cells2 rfl _ _ rfl rfl Tryz.underlying48 rfl Tryz.underlying30 rfl hE.out.2.1 hE.out.2.2.1, _, A, h', k', d', W', rfl, hO.out, hK.out, hE.out.2.2.2⟩
  case it =>
    intro fn W1 rec hfn hrec SW
    have hst : rec.state = .ready := by rw [hrec]
    have hpd : rec.pending = none := by rw [hrec]
    refine (chunk_iter_pair 5 (by omega) _ gs gn b off l.length cc per h1 (by omega) hl hb1 hb2
      (fun i W => ∃ ov A h' k' d' W', Own eSpot 55 ov (leafRow per l i) A ∧ ShOk q (leafMade q per l i) h' k' d' p W' ∧
        St w F W ((w2.heap.size + 1, .loop rec) :: (w2.heap.size, .deferred (some [])) :: (lvB gn gs g10 g7 g6 g3 s per (.slice (some ⟨b, off, none⟩) l.length cc) ov ++ (shB q s z h' k' d' p W' i ++ A)))) (fun _ => False) ?box ?drew ?round W1 ?start).mono ?_
    case box => rintro i W ⟨ov, A, h', k', d', W', O, K', S⟩; exact ⟨S.cell 3 rfl 0 rfl, S.cell 2 rfl 0 rfl⟩
    case drew => rintro i W n ⟨ov, A, h', k', d', W', O, K', S⟩; exact ⟨ov, A, h', k', d', W', O, K', S.drewN n⟩
    case start => exact ⟨_, [], h, k, d, W, Own.nil _ _, K, SW⟩
    case round =>
      rintro i W5 ⟨ov, A, h', k', d', W', O, K', S5⟩ hlt
      have hA := congrArg Loop.assign hrec
      have hB := congrArg Loop.body hrec
      have hT := congrArg Loop.tmps hrec
      have hP := congrArg Loop.params hrec
      dsimp only at hA hB hT hP
      refine yield_st S5 0 _ rec rfl hst _ (by rw [hP]; rfl) trivial ?_
      obtain ⟨pl, hpl⟩ : ∃ pl, pl = min per (l.length - i * per) := ⟨_, rfl⟩
      have hpv : partV b off 2 l.length per i = .slice (some ⟨b, off + i * per * 2, none⟩) pl pl := by unfold partV; rw [hpl]
      rw [hA, hB, hT, hP, hpv]
      obtain ⟨w6, hbr, S6⟩ := begin_st (P := Tryz.prog) S5 0 _ rec rfl hst
      simp only [List.set_cons_zero] at S6
      have hH := Lib.hid hrec
      have hi : i < upN l.length per := by
        unfold upN
        rw [Nat.lt_div_iff_mul_lt (by omega)]
        have := hlt; omega
      have hmk : (leafMade q per l i).length + 1 < q.blocks := by rw [leafMade_len]; omega
      have hml := leafMade_len q per l i
      have H6 : HC w6 (shB q s z h' k' d' p W' (leafMade q per l i).length) := by rw [hml]; exact (St.right (A := [_, _, _, _, _, _, _, _]) S6).hc.left
      have hprt : Rd ePr w6 (.slice (some ⟨b, off + i * per * 2, none⟩) pl pl) (partL per l i) := hpv ▸ part_rd (E := ePr) (i := i) (per := per) (hrd w6 _ S6)
      have hpl1 : 1 ≤ pl := by omega
      have hpl2 : (partL per l i).length = pl := by rw [part_len, hpl]
      have hmake := Lib.hid (shelf_make hs hN2 hq K' hmk (leafNd (partL per l i)) (part_good hup he h2 i) (Nat.zero_le _) _ _ _ _ w6 ⟨Rd.nil _ _, Rd.nil _ _, Rd.nil _ _, hprt⟩ H6)
      rw [List.length_append, List.length_singleton, hml] at hmake
      have c3 : w6.cell? ⟨g3, 0, none⟩ = some (.pointer (some ⟨s, 0, none⟩)) := S6.cell 7 rfl 0 rfl
      have hS6 := Lib.hid S6
      have hK' := Lib.hid K'
      replace hpl := Lib.hid hpl
      clear hrec hA hB hT hP SW S6 S5 H6 hmk K' hpv
      generalize hR : roundPost Tryz.prog (w2.heap.size + 1) _ = RR
      have hRR := Lib.hid hR
      clear hR
      gi_wp2_with fail
      refine ⟨trivial, CallsIn.inRound _ ((callsIn_wide.2 hmake.out).mono ?_)⟩
      rintro e w7 ⟨rfl, h7, k7, d7, W7, K7, S7⟩
      have S8 := ((hS6.out.perm (mid_perm (_ :: _ :: lvB gn gs g10 g7 g6 g3 s per (.slice (some ⟨b, off, none⟩) l.length cc) ov) _ _)).call S7).perm (mid_perm _ _ _).symm
      have hfirst : ∃ x, (partL per l i)[0]? = some x := ⟨_, List.getElem?_eq_getElem (by rw [hpl2]; omega)⟩
      have hlast : ∃ y, (partL per l i)[pl - 1]? = some y := ⟨_, List.getElem?_eq_getElem (by rw [hpl2]; omega)⟩
      obtain ⟨x, hx⟩ := hfirst
      obtain ⟨y, hy⟩ := hlast
      have hprt7 : Rd ePr w7 (.slice (some ⟨b, off + i * per * 2, none⟩) pl pl) (partL per l i) := by
        have := part_rd (E := ePr) (i := i) (per := per) (hrd w7 _ S8)
        unfold partV at this
        rw [← hpl.out] at this
        exact this
      obtain ⟨b1, off1, he1, hc1⟩ := hprt7.get hx
      obtain ⟨b2, off2, he2, hc2⟩ := hprt7.get hy
      injection he1 with he1; injection he1 with e1 e2; subst e1; subst e2
      injection he2 with he2; injection he2 with e1 e2; subst e1; subst e2
      have x0 : w7.cell? ⟨b, off + i * per * 2, none⟩ = some (.string x.key) := hc1 0 _ rfl
      have y0 : w7.cell? ⟨b, off + i * per * 2 + (pl - 1) * 2, none⟩ = some (.string y.key) := hc2 0 _ rfl
      have hsp : spotOf per l i = ⟨i + 1, x.key, y.key⟩ := by
        unfold spotOf
        rw [List.headD_eq_head?_getD, List.getLastD_eq_getLast?, List.head?_eq_getElem?, hx, List.getLast?_eq_getElem?, hpl2, hy]; rfl
      have c10 : w7.cell? ⟨g10, 0, none⟩ = some ov := S8.cell 4 rfl 0 rfl
      have f10 : w7.frozen? ⟨g10, 0, none⟩ = false := S8.frozen 4 rfl 0
      have b10 : g10 < w7.heap.size := World.block_lt_of_cell? _ _ c10
      have hS8 := Lib.hid S8
      have hpi1 : ((pl : Int) - 1).toNat = pl - 1 := by omega
      have hpi2 : (0 : Int) ≤ (pl : Int) - 1 := by omega
      have hpi3 : (pl : Int) - 1 < (pl : Int) := by omega
      have hpw : IntKind.i64.wrap ((pl : Int) - 1) = (pl : Int) - 1 := IntWalk.i64_in _ (by have := hpl.out; omega)
      have hpp : 0 < pl := by omega
      have hpp1 : (1 : Int) ≤ (pl : Int) := by omega
      have hRow := Lib.hid (leafRow_len per l i)
      have hone := O.one
      clear hx hy hc1 hc2 hprt hprt7 S7 S8 hS6 hmake hK' c3
      have mixed : Tryz.prog.follows .mixedOrders = true := by kernel_rfl
      have S9 := (St.swap (A := (_ :: _ :: lvB gn gs g10 g7 g6 g3 s per (.slice (some ⟨b, off, none⟩) l.length cc) ov) ++ shB q s z h7 k7 d7 p W7 (i + 1)) (B := A) (hS8.out.cast (List.append_assoc _ _ _).symm)).drew.alloc (C 55 (eSpot.enc (spotOf per l i)))
      rw [hsp] at S9
      have hS9 := Lib.hid S9
      have hlx : Hid ((leafRow per l i).length + 1 ≤ 2147483648 ∧ 40 ≤ 65536) := by show _ ∧ _; rw [leafRow_len]; have := hl2; have : upN l.length per ≤ l.length := upN_le h1; omega
      have fin : ∀ (w9 : World) (v9 : Value) (A9 : Blocks), Own eSpot 55 v9 (leafRow per l i ++ [⟨i + 1, x.key, y.key⟩]) A9 → St w F w9 (((w2.heap.size + 1, Obj.loop { rec with state := .busy }) :: (w2.heap.size, .deferred (some [])) :: lvB gn gs g10 g7 g6 g3 s per (.slice (some ⟨b, off, none⟩) l.length cc) v9) ++ (shB q s z h7 k7 d7 p W7 (i + 1) ++ A9)) → ∀ ac : Act, RR .normal ac w9 := by
        intro w9 v9 A9 O9 S10 ac
        rw [← hRR.out]
        obtain ⟨w10, he10, S11⟩ := end_st (P := Tryz.prog) S10 0 _ { rec with state := .busy } rfl none
        refine ⟨_, w10, he10, .inl ⟨rfl, v9, A9, h7, k7, d7, W7, ?_, ?_, ?_⟩⟩
        · rw [leafRow_succ, hsp]; exact O9
        · rw [leafMade_succ]; exact K7
        · refine S11.cast ?_
          have e2 : ({ { rec with state := LoopState.busy } with state := if (none : Option Code).isNone then LoopState.ready else LoopState.done, pending := none } : Loop) = rec := by rw [hH.out]; rfl
          rw [List.cons_append, List.set_cons_zero, e2]
          rfl
      replace fin := Lib.hid fin
      obtain ⟨v9, w9, A9, hr9, O9, S9'⟩ := run_append1 hS9.out O 48 48 _ 40 Tryz.underlying48 spot_info rfl hlx.out
      obtain ⟨B9, cap9, rfl, hq1, hq2⟩ := O9.slice
      have S10 := (St.swap (B := (_ :: _ :: lvB gn gs g10 g7 g6 g3 s per (.slice (some ⟨b, off, none⟩) l.length cc) ov) ++ shB q s z h7 k7 d7 p W7 (i + 1)) S9').cast (List.append_assoc _ _ _)
      have c11 : w9.cell? ⟨g10, 0, none⟩ = some ov := S10.cell 4 rfl 0 rfl
      have f11 : w9.frozen? ⟨g10, 0, none⟩ = false := S10.frozen 4 rfl 0
      have hS10 := Lib.hid (S10.setCell 4 rfl 0 (.slice B9 (leafRow per l i ++ [(⟨i + 1, x.key, y.key⟩ : Spot)]).length cap9))
      generalize (leafRow per l i ++ [(⟨i + 1, x.key, y.key⟩ : Spot)]).length = n9 at *
      replace hr9 : Sem.run Tryz.prog (Builtin.append_ #[48, 48] 48 #[ov, Value.slice (some { block := w7.heap.size, off := 0 }) 1 1]) ((w7.alloc (Obj.cells #[Value.int IntKind.u32 (↑i + 1), Value.string x.key, Value.string y.key] 55)).drew) = Result.ok (Value.slice B9 n9 cap9) w9 := hr9
      clear S9 S9' S10 hS8 hq1 hq2
      gi_wp2
      refine inR_region_any mixed (by kernel_rfl) ?_
      refine wpAny_take (i := 1) (v := ?_) rfl (by kernel_rfl) (by kernel_rfl) (by kernel_rfl) (fun _ _ _ h => h) (Or.inl ⟨by rfl, ?_⟩) ?_
      rotate_left
      focus (intro w; go_simp; with_reducible rfl)
      refine wpAny_take (i := 2) (v := ?_) rfl (by kernel_rfl) (by kernel_rfl) (by kernel_rfl) (fun _ _ _ h => h) (Or.inl ⟨by rfl, ?_⟩) ?_
      rotate_left
      focus (intro w; go_simp; with_reducible rfl)
      refine wpAny_take (i := 3) (v := ?_) rfl (by kernel_rfl) (by kernel_rfl) (by kernel_rfl) (fun _ _ _ h => h) (Or.inl ⟨by rfl, ?_⟩) ?_
      rotate_left
      focus (intro w; go_simp; with_reducible rfl)
      refine wpAny_take (i := 4) (v := ?_) rfl (by kernel_rfl) (by kernel_rfl) (by kernel_rfl) (fun _ _ _ h => h) (Or.inl ⟨by rfl, ?_⟩) ?_
      rotate_left
      focus (intro w; go_simp; with_reducible rfl)
      refine wpAny_take (i := 6) (v := ?_) rfl (by kernel_rfl) (by kernel_rfl) (by kernel_rfl) (fun _ _ _ h => h) (Or.inl ⟨by rfl, ?_⟩) ?_
      rotate_left
      focus (intro w; go_simp; with_reducible rfl)
      refine wpAny_take (i := 7) (v := ?_) rfl (by kernel_rfl) (by kernel_rfl) (by kernel_rfl) (fun _ _ _ h => h) (Or.inl ⟨by rfl, ?_⟩) ?_
      rotate_left
      focus (intro w; go_simp; with_reducible rfl)
      refine wpAny_ready (rs := [0, 5, 8]) (by kernel_rfl) (by simp) ?_
      refine AllReady.cons rfl (fun K hK => ?_) ?_
      · go_simp
        refine hK _ _ ?_
        clear hK K
        refine wpAny_ready (rs := [5, 8]) (by kernel_rfl) (by simp) ?_
        refine AllReady.cons rfl (fun K hK => ?_) ?_
        · go_simp
          refine hK _ _ ?_
          clear hK K
          refine wpAny_ready (rs := [8]) (by kernel_rfl) (by simp) ?_
          refine AllReady.cons rfl (fun K hK => ?_) ?_
          · go_simp
            refine hK _ _ ?_
            clear hK K
            refine wpAny_take (i := 9) (v := ?_) rfl (by kernel_rfl) (by kernel_rfl) (by kernel_rfl) (fun _ _ _ h => h) (Or.inl ⟨by rfl, ?_⟩) ?_
            rotate_left
            focus (intro w; go_simp; with_reducible rfl)
            refine wpAny_take (i := 10) (v := ?_) rfl (by kernel_rfl) (by kernel_rfl) (by kernel_rfl) (fun _ _ _ h => h) (Or.inl ⟨by rfl, ?_⟩) ?_
            rotate_left
            focus (intro w; go_simp; with_reducible rfl)
            refine wpAny_take (i := 11) (v := ?_) rfl (by kernel_rfl) (by kernel_rfl) (by kernel_rfl) (fun _ _ _ h => h) (Or.inl ⟨by rfl, ?_⟩) ?_
            rotate_left
            focus (intro w; go_simp; with_reducible rfl)
            refine wpAny_ready (rs := [12]) (by kernel_rfl) (by simp) ?_
            refine AllReady.cons rfl (fun K hK => ?_) ?_
            · go_simp
              refine hK _ _ ?_
              clear hK K
              refine wpAny_take (i := 13) (v := ?_) rfl (by kernel_rfl) (by kernel_rfl) (by kernel_rfl) (fun _ _ _ h => h) (Or.inl ⟨by rfl, ?_⟩) ?_
              rotate_left
              focus (intro w; go_simp; with_reducible rfl)
              refine wpAny_ready (rs := [14]) (by kernel_rfl) (by simp) ?_
              refine AllReady.cons rfl (fun K hK => ?_) ?_
              · go_simp
                refine hK _ _ ?_
                clear hK K
                refine wpAny_ready (rs := [15]) (by kernel_rfl) (by simp) ?_
                refine AllReady.cons rfl (fun K hK => ?_) ?_
                · refine step_run rfl _ _ _ rfl rfl rfl hr9 ?_
                  refine hK _ _ ?_
                  clear hK K
                  refine wpAny_ready (rs := [16]) (by kernel_rfl) (by simp) ?_
                  refine AllReady.cons rfl (fun K hK => ?_) ?_
                  · go_simp
                    refine hK _ _ ?_
                    clear hK K
                    refine wpAny_done (by kernel_rfl) ?_ _
                    exact fin.out _ _ _ O9 hS10.out _
                  exact AllReady.nil
                exact AllReady.nil
              exact AllReady.nil
            exact AllReady.nil
          exact AllReady.nil
        refine AllReady.cons rfl (fun K hK => ?_) ?_
        · go_simp
          refine hK _ _ ?_
          clear hK K
          refine wpAny_take (i := 9) (v := ?_) rfl (by kernel_rfl) (by kernel_rfl) (by kernel_rfl) (fun _ _ _ h => h) (Or.inl ⟨by rfl, ?_⟩) ?_
          rotate_left
          focus (intro w; go_simp; with_reducible rfl)
          refine wpAny_take (i := 10) (v := ?_) rfl (by kernel_rfl) (by kernel_rfl) (by kernel_rfl) (fun _ _ _ h => h) (Or.inl ⟨by rfl, ?_⟩) ?_
          rotate_left
          focus (intro w; go_simp; with_reducible rfl)
          refine wpAny_take (i := 11) (v := ?_) rfl (by kernel_rfl) (by kernel_rfl) (by kernel_rfl) (fun _ _ _ h => h) (Or.inl ⟨by rfl, ?_⟩) ?_
          rotate_left
          focus (intro w; go_simp; with_reducible rfl)
          refine wpAny_ready (rs := [5, 12]) (by kernel_rfl) (by simp) ?_
          refine AllReady.cons rfl (fun K hK => ?_) ?_
          · go_simp
            refine hK _ _ ?_
            clear hK K
            refine wpAny_ready (rs := [12]) (by kernel_rfl) (by simp) ?_
            refine AllReady.cons rfl (fun K hK => ?_) ?_
            · go_simp
              refine hK _ _ ?_
              clear hK K
              refine wpAny_take (i := 13) (v := ?_) rfl (by kernel_rfl) (by kernel_rfl) (by kernel_rfl) (fun _ _ _ h => h) (Or.inl ⟨by rfl, ?_⟩) ?_
              rotate_left
              focus (intro w; go_simp; with_reducible rfl)
              refine wpAny_ready (rs := [14]) (by kernel_rfl) (by simp) ?_
              refine AllReady.cons rfl (fun K hK => ?_) ?_
              · go_simp
                refine hK _ _ ?_
                clear hK K
                refine wpAny_ready (rs := [15]) (by kernel_rfl) (by simp) ?_
                refine AllReady.cons rfl (fun K hK => ?_) ?_
                · refine step_run rfl _ _ _ rfl rfl rfl hr9 ?_
                  refine hK _ _ ?_
                  clear hK K
                  refine wpAny_ready (rs := [16]) (by kernel_rfl) (by simp) ?_
                  refine AllReady.cons rfl (fun K hK => ?_) ?_
                  · go_simp
                    refine hK _ _ ?_
                    clear hK K
                    refine wpAny_done (by kernel_rfl) ?_ _
                    exact fin.out _ _ _ O9 hS10.out _
                  exact AllReady.nil
                exact AllReady.nil
              exact AllReady.nil
            exact AllReady.nil
          refine AllReady.cons rfl (fun K hK => ?_) ?_
          · go_simp
            refine hK _ _ ?_
            clear hK K
            refine wpAny_ready (rs := [5]) (by kernel_rfl) (by simp) ?_
            refine AllReady.cons rfl (fun K hK => ?_) ?_
            · go_simp
              refine hK _ _ ?_
              clear hK K
              refine wpAny_take (i := 13) (v := ?_) rfl (by kernel_rfl) (by kernel_rfl) (by kernel_rfl) (fun _ _ _ h => h) (Or.inl ⟨by rfl, ?_⟩) ?_
              rotate_left
              focus (intro w; go_simp; with_reducible rfl)
              refine wpAny_ready (rs := [14]) (by kernel_rfl) (by simp) ?_
              refine AllReady.cons rfl (fun K hK => ?_) ?_
              · go_simp
                refine hK _ _ ?_
                clear hK K
                refine wpAny_ready (rs := [15]) (by kernel_rfl) (by simp) ?_
                refine AllReady.cons rfl (fun K hK => ?_) ?_
                · refine step_run rfl _ _ _ rfl rfl rfl hr9 ?_
                  refine hK _ _ ?_
                  clear hK K
                  refine wpAny_ready (rs := [16]) (by kernel_rfl) (by simp) ?_
                  refine AllReady.cons rfl (fun K hK => ?_) ?_
                  · go_simp
                    refine hK _ _ ?_
                    clear hK K
                    refine wpAny_done (by kernel_rfl) ?_ _
                    exact fin.out _ _ _ O9 hS10.out _
                  exact AllReady.nil
                exact AllReady.nil
              exact AllReady.nil
            exact AllReady.nil
          exact AllReady.nil
        exact AllReady.nil
      refine AllReady.cons rfl (fun K hK => ?_) ?_
      · go_simp
        refine hK _ _ ?_
        clear hK K
        refine wpAny_ready (rs := [0, 8]) (by kernel_rfl) (by simp) ?_
        refine AllReady.cons rfl (fun K hK => ?_) ?_
        · go_simp
          refine hK _ _ ?_
          clear hK K
          refine wpAny_ready (rs := [8]) (by kernel_rfl) (by simp) ?_
          refine AllReady.cons rfl (fun K hK => ?_) ?_
          · go_simp
            refine hK _ _ ?_
            clear hK K
            refine wpAny_take (i := 9) (v := ?_) rfl (by kernel_rfl) (by kernel_rfl) (by kernel_rfl) (fun _ _ _ h => h) (Or.inl ⟨by rfl, ?_⟩) ?_
            rotate_left
            focus (intro w; go_simp; with_reducible rfl)
            refine wpAny_take (i := 10) (v := ?_) rfl (by kernel_rfl) (by kernel_rfl) (by kernel_rfl) (fun _ _ _ h => h) (Or.inl ⟨by rfl, ?_⟩) ?_
            rotate_left
            focus (intro w; go_simp; with_reducible rfl)
            refine wpAny_take (i := 11) (v := ?_) rfl (by kernel_rfl) (by kernel_rfl) (by kernel_rfl) (fun _ _ _ h => h) (Or.inl ⟨by rfl, ?_⟩) ?_
            rotate_left
            focus (intro w; go_simp; with_reducible rfl)
            refine wpAny_ready (rs := [12]) (by kernel_rfl) (by simp) ?_
            refine AllReady.cons rfl (fun K hK => ?_) ?_
            · go_simp
              refine hK _ _ ?_
              clear hK K
              refine wpAny_take (i := 13) (v := ?_) rfl (by kernel_rfl) (by kernel_rfl) (by kernel_rfl) (fun _ _ _ h => h) (Or.inl ⟨by rfl, ?_⟩) ?_
              rotate_left
              focus (intro w; go_simp; with_reducible rfl)
              refine wpAny_ready (rs := [14]) (by kernel_rfl) (by simp) ?_
              refine AllReady.cons rfl (fun K hK => ?_) ?_
              · go_simp
                refine hK _ _ ?_
                clear hK K
                refine wpAny_ready (rs := [15]) (by kernel_rfl) (by simp) ?_
                refine AllReady.cons rfl (fun K hK => ?_) ?_
                · refine step_run rfl _ _ _ rfl rfl rfl hr9 ?_
                  refine hK _ _ ?_
                  clear hK K
                  refine wpAny_ready (rs := [16]) (by kernel_rfl) (by simp) ?_
                  refine AllReady.cons rfl (fun K hK => ?_) ?_
                  · go_simp
                    refine hK _ _ ?_
                    clear hK K
                    refine wpAny_done (by kernel_rfl) ?_ _
                    exact fin.out _ _ _ O9 hS10.out _
                  exact AllReady.nil
                exact AllReady.nil
              exact AllReady.nil
            exact AllReady.nil
          exact AllReady.nil
        refine AllReady.cons rfl (fun K hK => ?_) ?_
        · go_simp
          refine hK _ _ ?_
          clear hK K
          refine wpAny_take (i := 9) (v := ?_) rfl (by kernel_rfl) (by kernel_rfl) (by kernel_rfl) (fun _ _ _ h => h) (Or.inl ⟨by rfl, ?_⟩) ?_
          rotate_left
          focus (intro w; go_simp; with_reducible rfl)
          refine wpAny_take (i := 10) (v := ?_) rfl (by kernel_rfl) (by kernel_rfl) (by kernel_rfl) (fun _ _ _ h => h) (Or.inl ⟨by rfl, ?_⟩) ?_
          rotate_left
          focus (intro w; go_simp; with_reducible rfl)
          refine wpAny_take (i := 11) (v := ?_) rfl (by kernel_rfl) (by kernel_rfl) (by kernel_rfl) (fun _ _ _ h => h) (Or.inl ⟨by rfl, ?_⟩) ?_
          rotate_left
          focus (intro w; go_simp; with_reducible rfl)
          refine wpAny_ready (rs := [0, 12]) (by kernel_rfl) (by simp) ?_
          refine AllReady.cons rfl (fun K hK => ?_) ?_
          · go_simp
            refine hK _ _ ?_
            clear hK K
            refine wpAny_ready (rs := [12]) (by kernel_rfl) (by simp) ?_
            refine AllReady.cons rfl (fun K hK => ?_) ?_
            · go_simp
              refine hK _ _ ?_
              clear hK K
              refine wpAny_take (i := 13) (v := ?_) rfl (by kernel_rfl) (by kernel_rfl) (by kernel_rfl) (fun _ _ _ h => h) (Or.inl ⟨by rfl, ?_⟩) ?_
              rotate_left
              focus (intro w; go_simp; with_reducible rfl)
              refine wpAny_ready (rs := [14]) (by kernel_rfl) (by simp) ?_
              refine AllReady.cons rfl (fun K hK => ?_) ?_
              · go_simp
                refine hK _ _ ?_
                clear hK K
                refine wpAny_ready (rs := [15]) (by kernel_rfl) (by simp) ?_
                refine AllReady.cons rfl (fun K hK => ?_) ?_
                · refine step_run rfl _ _ _ rfl rfl rfl hr9 ?_
                  refine hK _ _ ?_
                  clear hK K
                  refine wpAny_ready (rs := [16]) (by kernel_rfl) (by simp) ?_
                  refine AllReady.cons rfl (fun K hK => ?_) ?_
                  · go_simp
                    refine hK _ _ ?_
                    clear hK K
                    refine wpAny_done (by kernel_rfl) ?_ _
                    exact fin.out _ _ _ O9 hS10.out _
                  exact AllReady.nil
                exact AllReady.nil
              exact AllReady.nil
            exact AllReady.nil
          refine AllReady.cons rfl (fun K hK => ?_) ?_
          · go_simp
            refine hK _ _ ?_
            clear hK K
            refine wpAny_take (i := 13) (v := ?_) rfl (by kernel_rfl) (by kernel_rfl) (by kernel_rfl) (fun _ _ _ h => h) (Or.inl ⟨by rfl, ?_⟩) ?_
            rotate_left
            focus (intro w; go_simp; with_reducible rfl)
            refine wpAny_ready (rs := [0, 14]) (by kernel_rfl) (by simp) ?_
            refine AllReady.cons rfl (fun K hK => ?_) ?_
            · go_simp
              refine hK _ _ ?_
              clear hK K
              refine wpAny_ready (rs := [14]) (by kernel_rfl) (by simp) ?_
              refine AllReady.cons rfl (fun K hK => ?_) ?_
              · go_simp
                refine hK _ _ ?_
                clear hK K
                refine wpAny_ready (rs := [15]) (by kernel_rfl) (by simp) ?_
                refine AllReady.cons rfl (fun K hK => ?_) ?_
                · refine step_run rfl _ _ _ rfl rfl rfl hr9 ?_
                  refine hK _ _ ?_
                  clear hK K
                  refine wpAny_ready (rs := [16]) (by kernel_rfl) (by simp) ?_
                  refine AllReady.cons rfl (fun K hK => ?_) ?_
                  · go_simp
                    refine hK _ _ ?_
                    clear hK K
                    refine wpAny_done (by kernel_rfl) ?_ _
                    exact fin.out _ _ _ O9 hS10.out _
                  exact AllReady.nil
                exact AllReady.nil
              exact AllReady.nil
            refine AllReady.cons rfl (fun K hK => ?_) ?_
            · go_simp
              refine hK _ _ ?_
              clear hK K
              refine wpAny_ready (rs := [0]) (by kernel_rfl) (by simp) ?_
              refine AllReady.cons rfl (fun K hK => ?_) ?_
              · go_simp
                refine hK _ _ ?_
                clear hK K
                refine wpAny_ready (rs := [15]) (by kernel_rfl) (by simp) ?_
                refine AllReady.cons rfl (fun K hK => ?_) ?_
                · refine step_run rfl _ _ _ rfl rfl rfl hr9 ?_
                  refine hK _ _ ?_
                  clear hK K
                  refine wpAny_ready (rs := [16]) (by kernel_rfl) (by simp) ?_
                  refine AllReady.cons rfl (fun K hK => ?_) ?_
                  · go_simp
                    refine hK _ _ ?_
                    clear hK K
                    refine wpAny_done (by kernel_rfl) ?_ _
                    exact fin.out _ _ _ O9 hS10.out _
                  exact AllReady.nil
                exact AllReady.nil
              exact AllReady.nil
            exact AllReady.nil
          exact AllReady.nil
        exact AllReady.nil
      refine AllReady.cons rfl (fun K hK => ?_) ?_
      · go_simp
        refine hK _ _ ?_
        clear hK K
        refine wpAny_take (i := 9) (v := ?_) rfl (by kernel_rfl) (by kernel_rfl) (by kernel_rfl) (fun _ _ _ h => h) (Or.inl ⟨by rfl, ?_⟩) ?_
        rotate_left
        focus (intro w; go_simp; with_reducible rfl)
        refine wpAny_take (i := 10) (v := ?_) rfl (by kernel_rfl) (by kernel_rfl) (by kernel_rfl) (fun _ _ _ h => h) (Or.inl ⟨by rfl, ?_⟩) ?_
        rotate_left
        focus (intro w; go_simp; with_reducible rfl)
        refine wpAny_take (i := 11) (v := ?_) rfl (by kernel_rfl) (by kernel_rfl) (by kernel_rfl) (fun _ _ _ h => h) (Or.inl ⟨by rfl, ?_⟩) ?_
        rotate_left
        focus (intro w; go_simp; with_reducible rfl)
        refine wpAny_ready (rs := [0, 5, 12]) (by kernel_rfl) (by simp) ?_
        refine AllReady.cons rfl (fun K hK => ?_) ?_
        · go_simp
          refine hK _ _ ?_
          clear hK K
          refine wpAny_ready (rs := [5, 12]) (by kernel_rfl) (by simp) ?_
          refine AllReady.cons rfl (fun K hK => ?_) ?_
          · go_simp
            refine hK _ _ ?_
            clear hK K
            refine wpAny_ready (rs := [12]) (by kernel_rfl) (by simp) ?_
            refine AllReady.cons rfl (fun K hK => ?_) ?_
            · go_simp
              refine hK _ _ ?_
              clear hK K
              refine wpAny_take (i := 13) (v := ?_) rfl (by kernel_rfl) (by kernel_rfl) (by kernel_rfl) (fun _ _ _ h => h) (Or.inl ⟨by rfl, ?_⟩) ?_
              rotate_left
              focus (intro w; go_simp; with_reducible rfl)
              refine wpAny_ready (rs := [14]) (by kernel_rfl) (by simp) ?_
              refine AllReady.cons rfl (fun K hK => ?_) ?_
              · go_simp
                refine hK _ _ ?_
                clear hK K
                refine wpAny_ready (rs := [15]) (by kernel_rfl) (by simp) ?_
                refine AllReady.cons rfl (fun K hK => ?_) ?_
                · refine step_run rfl _ _ _ rfl rfl rfl hr9 ?_
                  refine hK _ _ ?_
                  clear hK K
                  refine wpAny_ready (rs := [16]) (by kernel_rfl) (by simp) ?_
                  refine AllReady.cons rfl (fun K hK => ?_) ?_
                  · go_simp
                    refine hK _ _ ?_
                    clear hK K
                    refine wpAny_done (by kernel_rfl) ?_ _
                    exact fin.out _ _ _ O9 hS10.out _
                  exact AllReady.nil
                exact AllReady.nil
              exact AllReady.nil
            exact AllReady.nil
          refine AllReady.cons rfl (fun K hK => ?_) ?_
          · go_simp
            refine hK _ _ ?_
            clear hK K
            refine wpAny_ready (rs := [5]) (by kernel_rfl) (by simp) ?_
            refine AllReady.cons rfl (fun K hK => ?_) ?_
            · go_simp
              refine hK _ _ ?_
              clear hK K
              refine wpAny_take (i := 13) (v := ?_) rfl (by kernel_rfl) (by kernel_rfl) (by kernel_rfl) (fun _ _ _ h => h) (Or.inl ⟨by rfl, ?_⟩) ?_
              rotate_left
              focus (intro w; go_simp; with_reducible rfl)
              refine wpAny_ready (rs := [14]) (by kernel_rfl) (by simp) ?_
              refine AllReady.cons rfl (fun K hK => ?_) ?_
              · go_simp
                refine hK _ _ ?_
                clear hK K
                refine wpAny_ready (rs := [15]) (by kernel_rfl) (by simp) ?_
                refine AllReady.cons rfl (fun K hK => ?_) ?_
                · refine step_run rfl _ _ _ rfl rfl rfl hr9 ?_
                  refine hK _ _ ?_
                  clear hK K
                  refine wpAny_ready (rs := [16]) (by kernel_rfl) (by simp) ?_
                  refine AllReady.cons rfl (fun K hK => ?_) ?_
                  · go_simp
                    refine hK _ _ ?_
                    clear hK K
                    refine wpAny_done (by kernel_rfl) ?_ _
                    exact fin.out _ _ _ O9 hS10.out _
                  exact AllReady.nil
                exact AllReady.nil
              exact AllReady.nil
            exact AllReady.nil
          exact AllReady.nil
        refine AllReady.cons rfl (fun K hK => ?_) ?_
        · go_simp
          refine hK _ _ ?_
          clear hK K
          refine wpAny_ready (rs := [0, 12]) (by kernel_rfl) (by simp) ?_
          refine AllReady.cons rfl (fun K hK => ?_) ?_
          · go_simp
            refine hK _ _ ?_
            clear hK K
            refine wpAny_ready (rs := [12]) (by kernel_rfl) (by simp) ?_
            refine AllReady.cons rfl (fun K hK => ?_) ?_
            · go_simp
              refine hK _ _ ?_
              clear hK K
              refine wpAny_take (i := 13) (v := ?_) rfl (by kernel_rfl) (by kernel_rfl) (by kernel_rfl) (fun _ _ _ h => h) (Or.inl ⟨by rfl, ?_⟩) ?_
              rotate_left
              focus (intro w; go_simp; with_reducible rfl)
              refine wpAny_ready (rs := [14]) (by kernel_rfl) (by simp) ?_
              refine AllReady.cons rfl (fun K hK => ?_) ?_
              · go_simp
                refine hK _ _ ?_
                clear hK K
                refine wpAny_ready (rs := [15]) (by kernel_rfl) (by simp) ?_
                refine AllReady.cons rfl (fun K hK => ?_) ?_
                · refine step_run rfl _ _ _ rfl rfl rfl hr9 ?_
                  refine hK _ _ ?_
                  clear hK K
                  refine wpAny_ready (rs := [16]) (by kernel_rfl) (by simp) ?_
                  refine AllReady.cons rfl (fun K hK => ?_) ?_
                  · go_simp
                    refine hK _ _ ?_
                    clear hK K
                    refine wpAny_done (by kernel_rfl) ?_ _
                    exact fin.out _ _ _ O9 hS10.out _
                  exact AllReady.nil
                exact AllReady.nil
              exact AllReady.nil
            exact AllReady.nil
          refine AllReady.cons rfl (fun K hK => ?_) ?_
          · go_simp
            refine hK _ _ ?_
            clear hK K
            refine wpAny_take (i := 13) (v := ?_) rfl (by kernel_rfl) (by kernel_rfl) (by kernel_rfl) (fun _ _ _ h => h) (Or.inl ⟨by rfl, ?_⟩) ?_
            rotate_left
            focus (intro w; go_simp; with_reducible rfl)
            refine wpAny_ready (rs := [0, 14]) (by kernel_rfl) (by simp) ?_
            refine AllReady.cons rfl (fun K hK => ?_) ?_
            · go_simp
              refine hK _ _ ?_
              clear hK K
              refine wpAny_ready (rs := [14]) (by kernel_rfl) (by simp) ?_
              refine AllReady.cons rfl (fun K hK => ?_) ?_
              · go_simp
                refine hK _ _ ?_
                clear hK K
                refine wpAny_ready (rs := [15]) (by kernel_rfl) (by simp) ?_
                refine AllReady.cons rfl (fun K hK => ?_) ?_
                · refine step_run rfl _ _ _ rfl rfl rfl hr9 ?_
                  refine hK _ _ ?_
                  clear hK K
                  refine wpAny_ready (rs := [16]) (by kernel_rfl) (by simp) ?_
                  refine AllReady.cons rfl (fun K hK => ?_) ?_
                  · go_simp
                    refine hK _ _ ?_
                    clear hK K
                    refine wpAny_done (by kernel_rfl) ?_ _
                    exact fin.out _ _ _ O9 hS10.out _
                  exact AllReady.nil
                exact AllReady.nil
              exact AllReady.nil
            refine AllReady.cons rfl (fun K hK => ?_) ?_
            · go_simp
              refine hK _ _ ?_
              clear hK K
              refine wpAny_ready (rs := [0]) (by kernel_rfl) (by simp) ?_
              refine AllReady.cons rfl (fun K hK => ?_) ?_
              · go_simp
                refine hK _ _ ?_
                clear hK K
                refine wpAny_ready (rs := [15]) (by kernel_rfl) (by simp) ?_
                refine AllReady.cons rfl (fun K hK => ?_) ?_
                · refine step_run rfl _ _ _ rfl rfl rfl hr9 ?_
                  refine hK _ _ ?_
                  clear hK K
                  refine wpAny_ready (rs := [16]) (by kernel_rfl) (by simp) ?_
                  refine AllReady.cons rfl (fun K hK => ?_) ?_
                  · go_simp
                    refine hK _ _ ?_
                    clear hK K
                    refine wpAny_done (by kernel_rfl) ?_ _
                    exact fin.out _ _ _ O9 hS10.out _
                  exact AllReady.nil
                exact AllReady.nil
              exact AllReady.nil
            exact AllReady.nil
          exact AllReady.nil
        refine AllReady.cons rfl (fun K hK => ?_) ?_
        · go_simp
          refine hK _ _ ?_
          clear hK K
          refine wpAny_ready (rs := [0, 5]) (by kernel_rfl) (by simp) ?_
          refine AllReady.cons rfl (fun K hK => ?_) ?_
          · go_simp
            refine hK _ _ ?_
            clear hK K
            refine wpAny_ready (rs := [5]) (by kernel_rfl) (by simp) ?_
            refine AllReady.cons rfl (fun K hK => ?_) ?_
            · go_simp
              refine hK _ _ ?_
              clear hK K
              refine wpAny_take (i := 13) (v := ?_) rfl (by kernel_rfl) (by kernel_rfl) (by kernel_rfl) (fun _ _ _ h => h) (Or.inl ⟨by rfl, ?_⟩) ?_
              rotate_left
              focus (intro w; go_simp; with_reducible rfl)
              refine wpAny_ready (rs := [14]) (by kernel_rfl) (by simp) ?_
              refine AllReady.cons rfl (fun K hK => ?_) ?_
              · go_simp
                refine hK _ _ ?_
                clear hK K
                refine wpAny_ready (rs := [15]) (by kernel_rfl) (by simp) ?_
                refine AllReady.cons rfl (fun K hK => ?_) ?_
                · refine step_run rfl _ _ _ rfl rfl rfl hr9 ?_
                  refine hK _ _ ?_
                  clear hK K
                  refine wpAny_ready (rs := [16]) (by kernel_rfl) (by simp) ?_
                  refine AllReady.cons rfl (fun K hK => ?_) ?_
                  · go_simp
                    refine hK _ _ ?_
                    clear hK K
                    refine wpAny_done (by kernel_rfl) ?_ _
                    exact fin.out _ _ _ O9 hS10.out _
                  exact AllReady.nil
                exact AllReady.nil
              exact AllReady.nil
            exact AllReady.nil
          refine AllReady.cons rfl (fun K hK => ?_) ?_
          · go_simp
            refine hK _ _ ?_
            clear hK K
            refine wpAny_take (i := 13) (v := ?_) rfl (by kernel_rfl) (by kernel_rfl) (by kernel_rfl) (fun _ _ _ h => h) (Or.inl ⟨by rfl, ?_⟩) ?_
            rotate_left
            focus (intro w; go_simp; with_reducible rfl)
            refine wpAny_ready (rs := [0, 14]) (by kernel_rfl) (by simp) ?_
            refine AllReady.cons rfl (fun K hK => ?_) ?_
            · go_simp
              refine hK _ _ ?_
              clear hK K
              refine wpAny_ready (rs := [14]) (by kernel_rfl) (by simp) ?_
              refine AllReady.cons rfl (fun K hK => ?_) ?_
              · go_simp
                refine hK _ _ ?_
                clear hK K
                refine wpAny_ready (rs := [15]) (by kernel_rfl) (by simp) ?_
                refine AllReady.cons rfl (fun K hK => ?_) ?_
                · refine step_run rfl _ _ _ rfl rfl rfl hr9 ?_
                  refine hK _ _ ?_
                  clear hK K
                  refine wpAny_ready (rs := [16]) (by kernel_rfl) (by simp) ?_
                  refine AllReady.cons rfl (fun K hK => ?_) ?_
                  · go_simp
                    refine hK _ _ ?_
                    clear hK K
                    refine wpAny_done (by kernel_rfl) ?_ _
                    exact fin.out _ _ _ O9 hS10.out _
                  exact AllReady.nil
                exact AllReady.nil
              exact AllReady.nil
            refine AllReady.cons rfl (fun K hK => ?_) ?_
            · go_simp
              refine hK _ _ ?_
              clear hK K
              refine wpAny_ready (rs := [0]) (by kernel_rfl) (by simp) ?_
              refine AllReady.cons rfl (fun K hK => ?_) ?_
              · go_simp
                refine hK _ _ ?_
                clear hK K
                refine wpAny_ready (rs := [15]) (by kernel_rfl) (by simp) ?_
                refine AllReady.cons rfl (fun K hK => ?_) ?_
                · refine step_run rfl _ _ _ rfl rfl rfl hr9 ?_
                  refine hK _ _ ?_
                  clear hK K
                  refine wpAny_ready (rs := [16]) (by kernel_rfl) (by simp) ?_
                  refine AllReady.cons rfl (fun K hK => ?_) ?_
                  · go_simp
                    refine hK _ _ ?_
                    clear hK K
                    refine wpAny_done (by kernel_rfl) ?_ _
                    exact fin.out _ _ _ O9 hS10.out _
                  exact AllReady.nil
                exact AllReady.nil
              exact AllReady.nil
            exact AllReady.nil
          exact AllReady.nil
        exact AllReady.nil
      exact AllReady.nil
    · rintro e W' ⟨hv', ⟨m, hm1, hm2, ov, A, h', k', d', W'', O, K', S⟩ | hx⟩
      · have hmm := upN_of h1 hm1 hm2 hlen1
        subst hmm
        exact ⟨hv', rec, _, by rw [hst]; simp, S, .inl ⟨hpd, ov, A, h', k', d', W'', rfl, O, K'⟩⟩
      · exact hx.elim
end
end Go.Proofs.YtnobknmhffaoeaaGreatDoor
