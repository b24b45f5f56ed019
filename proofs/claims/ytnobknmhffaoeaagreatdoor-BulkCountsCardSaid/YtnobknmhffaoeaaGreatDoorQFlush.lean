/- maps.Keys of a map from uint32 to int: its iterator gives each key once. slices.Sorted(maps.Keys(m)), m from uint32 to int. slices.Sorted(maps.Keys(m)): the keys, ascending. cache: which blocks are dirty. cache.Flush: behind it the device has what the cache had. -/
import Derived.Test.YtnobknmhffaoeaaGreatDoorQCache
import Derived.Test.YtnobknmhffaoeaaGreatDoorQSort
set_option linter.unusedVariables false
set_option linter.unusedSimpArgs false
namespace Go.Proofs.YtnobknmhffaoeaaGreatDoor
open Go.RowKit
attribute [local go_sem] Oper.semAt_some
theorem perm_filter_split {α : Type} (p q : α → Bool) (x : α) : ∀ (l : List α), (l.filter p).Perm (x :: l.filter q) → True := fun _ _ => trivial
/-- What the caller's own state owes the iterator. -/
structure KJ (Bm b B0 : Nat) (ob : Obj) (J : List Nat → World → Prop) : Prop where
  box : ∀ pre W, J pre W → W.cell? ⟨Bm, 0, none⟩ = some (.map (some b))
  obj : ∀ pre W, J pre W → W.heap[b]? = some ob
  alloc : ∀ pre W m s q c, J pre W → J pre (W.alloc (.mapIter m s q c))
  turn : ∀ pre W r m s q c o', B0 ≤ r → J pre W → W.heap[r]? = some (.mapIter m s q c) → J pre (W.putObj r o')
  drew : ∀ pre W, J pre W → J pre W.drew
def leftKeys (Z : List (MapEntry × Nat)) (seen : Array Nat) : List Nat := (Z.filter fun p => !seen.contains p.1.born).map (·.2)
theorem left_push {seen : Array Nat} : ∀ {Z : List (MapEntry × Nat)} {e : MapEntry} {x : Nat}, (Z.map fun p => p.1.born).Nodup → (e, x) ∈ Z → seen.contains e.born = false → (leftKeys Z seen).Perm (x :: leftKeys Z (seen.push e.born))
  | [], e, x, _, h, _ => by cases h
  | (e', x') :: Z, e, x, hn, h, hs => by
    rw [List.map_cons, List.nodup_cons] at hn
    rcases List.mem_cons.1 h with h | h
    · injection h with h1 h2; subst h1; subst h2
      have e1 : leftKeys ((e, x) :: Z) seen = x :: leftKeys Z seen := by unfold leftKeys; rw [List.filter_cons, if_pos (by rw [hs]; rfl)]; rfl
      have e2 : leftKeys ((e, x) :: Z) (seen.push e.born) = leftKeys Z (seen.push e.born) := by unfold leftKeys; rw [List.filter_cons, if_neg (by simp)]
      have e3 : leftKeys Z (seen.push e.born) = leftKeys Z seen := by
        unfold leftKeys
        congr 1
        apply List.filter_congr
        intro p hp
        have : p.1.born ≠ e.born := fun e' => hn.1 (by rw [← e']; exact List.mem_map_of_mem (f := fun p : MapEntry × Nat => p.1.born) hp)
        simp [this]
      rw [e1, e2, e3]
    · have ih := left_push hn.2 h hs
      have hne : e'.born ≠ e.born := fun e1 => hn.1 (by rw [e1]; exact List.mem_map_of_mem (f := fun p : MapEntry × Nat => p.1.born) h)
      unfold leftKeys at ih ⊢
      rw [List.filter_cons, List.filter_cons]
      by_cases hc : seen.contains e'.born = true
      · rw [if_neg (by rw [hc]; simp), if_neg (by rw [contains_push, hc]; simp)]; exact ih
      · have hc' : seen.contains e'.born = false := by simpa using hc
        rw [if_pos (by rw [hc']; rfl), if_pos (by rw [contains_push, hc']; simp [hne]), List.map_cons, List.map_cons]
        exact (ih.cons _).trans (List.Perm.swap _ _ _)
theorem zip_mem {es : List MapEntry} {M : List (Nat × Nat)} (h : es.map (fun e => (e.key, e.val)) = M.map pv) {e : MapEntry} (he : e ∈ es) : ∃ x, (e, x) ∈ es.zip (M.map Prod.fst) ∧ e.key = .int .u32 (x : Nat) := by
  obtain ⟨i, hi⟩ := List.getElem?_of_mem he
  have h1 : (M.map pv)[i]? = some (e.key, e.val) := by rw [← h, List.getElem?_map, hi]; rfl
  rw [List.getElem?_map] at h1
  cases hm : M[i]? with
  | none => rw [hm] at h1; cases h1
  | some p =>
    rw [hm] at h1
    simp only [Option.map_some, Option.some.injEq, pv, Prod.mk.injEq] at h1
    refine ⟨p.1, ?_, h1.1.symm⟩
    have h2 : (es.zip (M.map Prod.fst))[i]? = some (e, p.1) := by
      rw [List.getElem?_zip_eq_some]; exact ⟨hi, by rw [List.getElem?_map, hm]; rfl⟩
    exact List.mem_of_getElem? h2
theorem zip_born {es : List MapEntry} {M : List (Nat × Nat)} (h : es.map (fun e => (e.key, e.val)) = M.map pv) : ((es.zip (M.map Prod.fst)).map fun p => p.1.born) = es.map MapEntry.born ∧ (es.zip (M.map Prod.fst)).map (·.2) = M.map Prod.fst := by
  have hl : es.length = (M.map Prod.fst).length := by have := congrArg List.length h; simpa using this
  constructor
  · rw [show (fun p : MapEntry × Nat => p.1.born) = MapEntry.born ∘ Prod.fst from rfl, ← List.map_map, List.map_fst_zip (by omega)]
  · exact List.map_snd_zip (by omega)
theorem left_none {seen : Array Nat} {es : Array MapEntry} {Z : List (MapEntry × Nat)} (hz : ∀ p ∈ Z, p.1 ∈ es.toList) (h : (leftOf es seen).size = 0) : leftKeys Z seen = [] := by
  unfold leftKeys
  rw [List.map_eq_nil_iff, List.filter_eq_nil_iff]
  intro p hp
  have := all_seen es seen h p.1 (hz p hp)
  simp only [this]; simp
set_option maxRecDepth 100000 in
set_option maxHeartbeats 2000000 in
theorem keys_iter (Fe : Fence) (n : Nat) (h10 : Fe.fn 121) (hro : Fe.round = none) (hn : 1 ≤ n) (l Bm b : Nat) (ob : Obj) (M : List (Nat × Nat)) (hM : MapIs ob M) (J : List Nat → World → Prop) (W : World) (hJ : KJ Bm b W.heap.size ob J)
    (hY : ∀ pre x W, J pre W → pre.length < M.length → YieldAt Fe (n - 1) Tryz.prog l #[.int .u32 (x : Nat)] W fun e W' => e = .returned (.bool true) ∧ J (pre ++ [x]) W' ∧ ∀ (r : Nat) m s q c, W.heap[r]? = some (.mapIter m s q c) → W'.heap[r]? = some (.mapIter m s q c))
    (h0 : J [] W) :
    CallsIn Fe n Tryz.prog 121 #[.func (.yield l) #[] #[], .pointer (some ⟨Bm, 0, none⟩)] W fun e W' => (∃ v, e = .returned v) ∧ ∃ ys : List Nat, ys.Perm (M.map Prod.fst) ∧ J ys W' := by
  obtain ⟨es, clock, rfl, hM1, hM2, hM3⟩ := hM
  have hbox := hJ.box _ _ h0
  have hobj := hJ.obj _ _ h0
  have hzb := zip_born hM1
  have hHJ := Lib.hid hJ
  have hHM := Lib.hid (And.intro hM1 (And.intro hM2 hM3))
  clear hM1 hM2 hM3 hJ
  refine callsIn_of_wp Tryz.func121 rfl h10 ?_ hro
  simp only [Tryz.ntmps121, List.size_toArray, List.length_cons, List.length_nil, Nat.reduceAdd, Nat.reduceSub, Array.replicate_succ, Array.replicate_zero, List.push_toArray, List.append_toArray, List.nil_append, List.cons_append]
  gi_wp2_with (first
    | (gi_at_range; refine gil_range rfl _ _ rfl Tryz.underlying129 rfl hobj ?_)
    | gi_in)
  go_frame
  gi_loopw [3] (fun _ wr => ∃ (seen : Array Nat) (ys : List Nat), Hid (wr.heap[W.heap.size]? = some (.mapIter (some b) clock seen clock) ∧ (ys ++ leftKeys (es.toList.zip (M.map Prod.fst)) seen).Perm (M.map Prod.fst) ∧ J ys wr))
    (fun _ wr => wr.rangeLeft b W.heap.size)
  case atStart =>
    refine ⟨#[], [], World.alloc_heap_new W _, ?_, hHJ.out.alloc _ _ _ _ _ _ h0⟩
    rw [List.nil_append]
    unfold leftKeys
    rw [List.filter_eq_self.2 (by simp), hzb.2]
  case round =>
    obtain ⟨seen, ys, hrel'⟩ := hrel
    obtain ⟨hit, hperm, hJs⟩ := hrel'.out
    have hob := hHJ.out.obj _ _ hJs
    gi_wp2_with (first
      | (gi_at_next; refine gil_next rfl _ rfl rfl hit hob hHM.out.2.1 (Nat.le_refl _) ?_ ?_)
      | gi_in)
    · -- nothing is left
      intro hl0
      have hl0 : (leftOf es seen).size = 0 := by rw [hl0.out]; rfl
      gi_wp2
      go_end0
      refine ⟨⟨_, rfl⟩, ys, ?_, hJs⟩
      rw [left_none (fun p hp => (List.of_mem_zip (show (p.1, p.2) ∈ _ from hp)).1) hl0, List.append_nil] at hperm
      exact hperm
    · -- an entry has come
      intro e w1 hew
      obtain ⟨he, hw1⟩ := hew.out
      have he : e ∈ (leftOf es seen).toList := Array.mem_toList_iff.2 he
      clear hew
      obtain ⟨hem, hes⟩ := mem_left he
      obtain ⟨x, hzx, hkey⟩ := zip_mem hHM.out.1 hem
      have hit1 : w1.heap[W.heap.size]? = some (.mapIter (some b) clock seen clock) := by rcases hw1 with rfl | rfl <;> exact hit
      have hJ1 : J ys w1 := by
        rcases hw1 with rfl | rfl
        · exact hJs
        · exact hHJ.out.drew _ _ hJs
      have hob1 : w1.heap[b]? = some (.map es clock) := hHJ.out.obj _ _ hJ1
      have hJ2 : J ys (w1.putObj W.heap.size (.mapIter (some b) clock (seen.push e.born) clock)) := hHJ.out.turn _ _ _ _ _ _ _ _ (Nat.le_refl _) hJ1 hit1
      have hit2 : (w1.putObj W.heap.size (.mapIter (some b) clock (seen.push e.born) clock)).heap[W.heap.size]? = some (.mapIter (some b) clock (seen.push e.born) clock) := World.putObj_heap_same (Array.getElem?_eq_some_iff.1 hit1).1
      have hen := run_entry_at (P := Tryz.prog) _ W.heap.size b clock seen es clock e hit2 (hHJ.out.obj _ _ hJ2) hem hHM.out.2.2
      have hpl : ys.length < M.length := by
        have h1 := hperm.length_eq
        have h2 := (left_push (x := x) (by rw [hzb.1]; exact hHM.out.2.2) hzx hes).length_eq
        rw [List.length_append, List.length_map] at h1
        simp at h2; omega
      have hlt := left_shrinks es seen e he
      have hrl : wr.rangeLeft b W.heap.size = (leftOf es seen).size := by simp only [World.rangeLeft, hob, hit]
      rw [hkey] at hen ⊢
      obtain ⟨W2, hW2⟩ : ∃ W2, w1.putObj W.heap.size (.mapIter (some b) clock (seen.push e.born) clock) = W2 := ⟨_, rfl⟩
      rw [hW2] at hJ2 hit2 hen ⊢
      obtain ⟨fn, tmps, assign, body, hy, hR⟩ := hY ys x W2 hJ2 hpl
      have hHl := Lib.hid hlt
      have hHz := Lib.hid hzx
      have hHp := Lib.hid hperm
      clear hW2 hw1 hit1 hJ1 hob1 hlt hzx hperm
      gi_wp2
      refine hR.mono ?_
      rintro e' W3 ⟨rfl, hJ3, hk3⟩
      have hit3 := hk3 _ _ _ _ _ hit2
      have hob3 := hHJ.out.obj _ _ hJ3
      gi_wp2
      go_roundw
      case rel =>
        refine ⟨seen.push e.born, ys ++ [x], hit3, ?_, hJ3⟩
        refine List.Perm.trans ?_ hHp.out
        rw [List.append_assoc]
        exact List.Perm.append_left _ (left_push (by rw [hzb.1]; exact hHM.out.2.2) hHz.out hes).symm
      case measure =>
        rw [hrl]
        simp only [World.rangeLeft, hob3, hit3]
        exact hHl.out
end Go.Proofs.YtnobknmhffaoeaaGreatDoor
namespace Go.Proofs.YtnobknmhffaoeaaGreatDoor
open Go.RowKit
attribute [local go_sem] Oper.semAt_some
/-- A range over a function, where the loop's blocks are two of ours. -/
theorem range_st {P : Program} {Fe : Fence} {n : Nat} {w0 w : World} {F : Nat → Prop} {L : Blocks} {g : Operand} {ps : Array Tmp} {assign body : Code} {Q : Exit → Act → World → Prop} {a : Act}
    (hro : Fe.round = none) (h1 : 1 ≤ n) {gf : Nat} {lb : Array Value} (hg : a.eval g = .func (.func gf) #[] lb) (hFg : Fe.fn gf) (eg : ∀ args w, (callFunc gf args).run P w = .ok (.enter gf args) w)
    (S : St w0 F w L) (Done : Blocks → Prop) (Stop : Code → Blocks → Prop)
    (it : ∀ (fn : FuncId) (W : World) (rec : Loop), Fe.fn fn → rec = { state := .ready, pending := none, fn, tmps := a.tmps, params := ps, assign, body, defers := w.heap.size } →
      St w0 F W ((w.heap.size + 1, .loop rec) :: (w.heap.size, .deferred (some [])) :: L) →
      CallsIn Fe (n - 1) P gf (#[.func (.yield (w.heap.size + 1)) #[] #[]] ++ lb) W fun e W' => (∃ v, e = .returned v) ∧ ∃ rec' L', rec'.state ≠ .busy ∧ St w0 F W' ((w.heap.size + 1, .loop rec') :: (w.heap.size, .deferred (some [])) :: L') ∧
        ((rec'.pending = none ∧ Done L') ∨ (∃ c, rec'.pending = some c ∧ Stop c L')))
    (hdone : ∀ (D : Nat) (L' : Blocks) (W : World), Done L' → St w0 F W ((D, .deferred (some [])) :: L') → Q .normal { a with defers := { target := .collected D, args := #[] } :: a.defers } W)
    (hstop : ∀ (D : Nat) (c : Code) (L' : Blocks) (W : World), Stop c L' → St w0 F W ((D, .deferred (some [])) :: L') → c.wpIn Fe n P Q { a with defers := { target := .collected D, args := #[] } :: a.defers } W) :
    (Code.rangeFunc g ps assign body).wpIn Fe n P Q a w := by
  refine wpIn_rangeFunc ?_
  intro fn hfn
  rw [hro]
  obtain ⟨rec, hrec⟩ : ∃ rec : Loop, rec = { state := .ready, pending := none, fn, tmps := a.tmps, params := ps, assign, body, defers := w.heap.size } := ⟨_, rfl⟩
  have S1 := (S.alloc (.deferred (some []))).alloc (.loop rec)
  rw [World.size_alloc] at S1
  refine ⟨w.heap.size + 1, [{ target := .collected w.heap.size, args := #[] }], (w.alloc (.deferred (some []))).alloc (.loop rec), { target := .fn (.func gf) lb, args := #[.func (.yield (w.heap.size + 1)) #[] #[]] }, (w.alloc (.deferred (some []))).alloc (.loop rec), gf,
    #[.func (.yield (w.heap.size + 1)) #[] #[]] ++ lb, (w.alloc (.deferred (some []))).alloc (.loop rec), ?_, ?_, ?_, ?_, fun _ => h1, ?_⟩
  · rw [hrec]; exact run_enterLoop_outer _ _ _ _ _
  · simp only [resolve, hg]
    simp [go_sem]
  · intro f' hf'; simp [Target.leads] at hf'; subst hf'; exact hFg
  · simp [invoke, go_sem, eg]
  · refine (it fn _ rec hfn hrec S1).mono ?_
    rintro e W2 ⟨⟨v, rfl⟩, rec', L', hb, S2, hor⟩
    have S3 := (S2.turn 0 rfl (turn_putObj (.loop { rec' with state := .exhausted }) (S2.obj 0 rfl))).right (A := [_])
    refine ⟨_, _, run_endLoop (S2.obj 0 rfl) hb, ?_⟩
    rcases hor with ⟨hp, hd⟩ | ⟨c, hp, hs⟩
    · rw [hp] at S3 ⊢; exact hdone _ L' _ hd S3
    · rw [hp] at S3 ⊢; exact hstop _ c L' _ hs S3
theorem Own.no_iter {α : Type} {E : Lay α} {e : Nat} {v : Value} {xs : List α} {L : Blocks} (O : Own E e v xs L) : NoIter L := by
  rcases O with ⟨_, _, rfl⟩ | ⟨b, cap, sp, _, rfl, _⟩
  · intro p hp; cases hp
  · intro p hp m s q c h
    simp at hp; subst hp; cases h
def mapO (b : Nat) : Obj := C 129 [.map (some b)]
theorem MapIs.no_iter {ob : Obj} {M : List (Nat × Nat)} (h : MapIs ob M) : ∀ m s q c, ob ≠ .mapIter m s q c := by
  obtain ⟨es, cl, rfl, _⟩ := h
  intro m s q c e; cases e
theorem sz_u32s : ∀ w, (sizeOf 62).run Tryz.prog w = .ok 1 w := Tryz.sizeOf62
set_option maxRecDepth 100000 in
set_option maxHeartbeats 4000000 in
theorem append_seq (Bm b : Nat) (ob : Obj) (M : List (Nat × Nat)) (hM : MapIs ob M) (hl : M.length ≤ 100000) (w : World) (H : HC w [(Bm, mapO b), (b, ob)]) :
    Calls Tryz.prog 142 #[.slice none 0 0, .func (.func 121) #[] #[.pointer (some ⟨Bm, 0, none⟩)]] w fun e w' => ∃ v ys A, e = .returned v ∧ ys.Perm (M.map Prod.fst) ∧ Own (eNat .u32) 53 v ys A ∧
      St w (FP w [(Bm, mapO b), (b, ob)]) w' (A ++ [(Bm, mapO b), (b, ob)]) := by
  have S := H.st
  generalize FP w [(Bm, mapO b), (b, ob)] = F at *
  refine callsIn_wide.1 (show CallsIn Fence.wide 5 _ _ _ _ _ from ?_)
  refine callsIn_of_wp_marks Tryz.func142 rfl trivial ?_ rfl
  simp only [Tryz.ntmps142, List.size_toArray, List.length_cons, List.length_nil, Nat.reduceAdd, Nat.reduceSub, Array.replicate_succ, Array.replicate_zero, List.push_toArray, List.append_toArray, List.nil_append, List.cons_append]
  gi_wp2
  have S1 := S.alloc (C 62 [.slice none 0 0])
  refine range_st (gf := 121) (lb := #[.pointer (some ⟨Bm, 0, none⟩)]) (n := 5) rfl (by omega) rfl trivial (enters_of Tryz.func121 (by kernel_rfl) rfl) S1
    (fun L' => ∃ v ys A, L' = (w.heap.size, C 62 [v]) :: (Bm, mapO b) :: (b, ob) :: A ∧ ys.Perm (M.map Prod.fst) ∧ Own (eNat .u32) 53 v ys A) (fun _ _ => False) ?it ?done ?stop
  case stop => intro _ _ _ _ h; exact h.elim
  case done =>
    rintro D L' W ⟨v, ys, A, rfl, hp, O⟩ S2
    have hc : W.cell? ⟨w.heap.size, 0, none⟩ = some v := S2.cell 1 rfl 0 rfl
    have hv1 := O.one
    have hD := S2.obj 0 rfl
    have S3 := ((S2.turn 0 rfl (turn_putObj (.deferred none) hD)).right (A := [_])).right (A := [_])
    have hS3 := Lib.hid (St.swap (A := [(Bm, mapO b), (b, ob)]) S3)
    obtain ⟨B, cc, rfl, _, _⟩ := O.slice
    clear S2 S3
    gi_wp2
    refine ⟨by simp, .inl ⟨_, _, rfl, run_takeDeferred hD, ?_⟩⟩
    exact ⟨_, results_tmp rfl _ _ _, .slice B ys.length cc, ys, A, rfl, hp, O, hS3.out⟩
  case it =>
    intro fn W rec hfn hrec SW
    have hst : rec.state = .ready := by rw [hrec]
    have hpd : rec.pending = none := by rw [hrec]
    have hps : rec.params.size = 1 := by rw [hrec]; rfl
    have hno : ∀ {v pre A}, Own (eNat .u32) 53 v pre A → NoIter ((w.heap.size + 1 + 1, .loop rec) :: (w.heap.size + 1, .deferred (some [])) :: (w.heap.size, C 62 [v]) :: (Bm, mapO b) :: (b, ob) :: A) := by
      intro v pre A O p hp m s q c
      simp only [List.mem_cons] at hp
      rcases hp with rfl | rfl | rfl | rfl | rfl | hp
      · intro h; cases h
      · intro h; cases h
      · intro h; cases h
      · intro h; cases h
      · exact hM.no_iter m s q c
      · exact O.no_iter p hp m s q c
    refine (keys_iter Fence.wide 4 trivial rfl (by omega) _ Bm b ob M hM
      (fun pre W => ∃ v A, Own (eNat .u32) 53 v pre A ∧ St w F W ((w.heap.size + 1 + 1, .loop rec) :: (w.heap.size + 1, .deferred (some [])) :: (w.heap.size, C 62 [v]) :: (Bm, mapO b) :: (b, ob) :: A)) W ?kj ?round ?start).mono ?_
    case start => exact ⟨_, [], Own.nil _ _, by simpa using SW⟩
    case kj =>
      refine ⟨?_, ?_, ?_, ?_, ?_⟩
      · rintro pre W ⟨v, A, O, S⟩; exact S.cell 3 rfl 0 rfl
      · rintro pre W ⟨v, A, O, S⟩; exact S.obj 4 rfl
      · rintro pre W m s q c ⟨v, A, O, S⟩; exact ⟨v, A, O, (S.alloc _).right (A := [_])⟩
      · rintro pre W' r m s q c o' hr ⟨v, A, O, S⟩ h
        exact ⟨v, A, O, S.other (by have := SW.size; omega) (S.not_iter (hno O) h) o'⟩
      · rintro pre W ⟨v, A, O, S⟩; exact ⟨v, A, O, S.drew⟩
    case round =>
      rintro pre x W ⟨v, A, O, S⟩ hlen
      have hA := congrArg Loop.assign hrec
      have hB := congrArg Loop.body hrec
      have hT := congrArg Loop.tmps hrec
      have hP := congrArg Loop.params hrec
      dsimp only at hA hB hT hP
      have S0 := S.hc.st
      rw [World.size_alloc]
      refine yield_st S0 0 _ rec rfl hst _ (by rw [hP]; rfl) trivial ?_
      rw [hA, hB, hT, hP]
      obtain ⟨w2, hbr, S2⟩ := begin_st (P := Tryz.prog) S0 0 _ rec rfl hst
      have hS := Lib.hid S
      have hS0 := Lib.hid S0
      have hH := Lib.hid hrec
      clear hrec hA hB hT hP SW S S0
      generalize hR : roundPost Tryz.prog (w.heap.size + 1 + 1) _ = RR
      have hRR := Lib.hid hR
      clear hR
      simp only [List.set_cons_zero] at S2
      have c2 : w2.cell? ⟨w.heap.size, 0, none⟩ = some v := S2.cell 2 rfl 0 rfl
      have hS2 := Lib.hid ((St.swap (A := [_, _, _, _, _]) S2).alloc (C 53 ((eNat .u32).enc x)))
      have hlx : Hid (pre.length + 1 ≤ 2147483648 ∧ 4 ≤ 65536) := by show _ ∧ _; omega
      clear S2
      gi_wp2_with (gi_at_builtin; refine gil_append1 hS2.out O rfl _ _ 62 rfl _ 4 Tryz.underlying62 info_u32 rfl rfl rfl hlx.out ?_; intro v3 w3 A3 O3 S3; obtain ⟨B3, cap3, rfl, hk1, hk2⟩ := O3.slice; replace S3 := St.swap (B := [_, _, _, _, _]) S3; have c3 : w3.cell? ⟨w.heap.size, 0, none⟩ = some v := S3.cell 2 rfl 0 rfl; have f3 : w3.frozen? ⟨w.heap.size, 0, none⟩ = false := S3.frozen 2 rfl 0; have hS3 := Lib.hid (S3.setCell 2 rfl 0 (.slice B3 (pre ++ [x]).length cap3)); clear S3 hk1 hk2)
      rw [← hRR.out]
      have S4 := hS3.out
      have e1 : (pre ++ [x]).length = pre.length + 1 := by simp
      rw [e1] at S4 O3
      obtain ⟨w5, he, S5⟩ := end_st (P := Tryz.prog) S4 0 _ { rec with state := .busy } rfl none
      refine ⟨_, w5, he, rfl, ⟨_, A3, O3, ?_⟩, ?_⟩
      · refine (hS.out.seq S5).cast ?_
        have e2 : ({ { rec with state := LoopState.busy } with state := if (none : Option Code).isNone then LoopState.ready else LoopState.done, pending := none } : Loop) = rec := by rw [hH.out]; rfl
        rw [e2]
        rfl
      · intro r m s q c h
        have hr := hS.out.not_iter (hno O) h
        have hlt := blk_lt' h
        rw [S5.kept r hlt (fun hf => by
          rcases hf with hf | hf
          · exact hr hf
          · omega)]
        exact h
    · rintro e W' ⟨he, ys, hp, v, A, O, S⟩
      exact ⟨he, rec, (w.heap.size, C 62 [v]) :: (Bm, mapO b) :: (b, ob) :: A, by rw [hst]; simp, by rw [World.size_alloc]; exact S, .inl ⟨hpd, v, ys, A, rfl, hp, O⟩⟩
end Go.Proofs.YtnobknmhffaoeaaGreatDoor
namespace Go.Proofs.YtnobknmhffaoeaaGreatDoor
open Go.RowKit
section
variable (w : World)
abbrev keysV (Bm : Nat) : Value := .func (.func 121) #[] #[.pointer (some ⟨Bm, 0, none⟩)]
theorem keys_call (b : Nat) : Calls Tryz.prog 103 #[.map (some b)] w fun e w' => ∃ Bm, e = .returned (keysV Bm) ∧ St w (FP w []) w' [(Bm, mapO b)] := by
  have S0 := St.nil w
  go_enter Tryz.func103, Tryz.ntmps103
  go_wp2_with (refine wpl_box S0 rfl _ _ rfl _ rfl ?_)
  intro g w1 hg S1
  go_wp2
  go_ret
  exact ⟨g, rfl, S1⟩
theorem collect_keys (Bm b : Nat) (ob : Obj) (M : List (Nat × Nat)) (hM : MapIs ob M) (hl : M.length ≤ 100000) (w : World) (H : HC w [(Bm, mapO b), (b, ob)]) :
    Calls Tryz.prog 119 #[keysV Bm] w fun e w' => ∃ v ys A, e = .returned v ∧ ys.Perm (M.map Prod.fst) ∧ Own (eNat .u32) 53 v ys A ∧ St w (FP w [(Bm, mapO b), (b, ob)]) w' (A ++ [(Bm, mapO b), (b, ob)]) := by
  have h := Lib.hid (append_seq Bm b ob M hM hl w H)
  clear H hM hl
  go_enter Tryz.func119, Tryz.ntmps119
  go_wp2_with (go_at_call 142; refine h.out.mono ?_; rintro e w' ⟨v, ys, A, rfl, hp, O, S⟩)
  go_ret
  exact ⟨v, ys, A, rfl, hp, O, S⟩
set_option maxHeartbeats 1000000 in
theorem sorted_keys {N : Nat} (hs : SortU32 N) (hN : N ≤ 100000) (Bm b : Nat) (ob : Obj) (M : List (Nat × Nat)) (hM : MapIs ob M) (hl : M.length ≤ N) (w : World) (H : HC w [(Bm, mapO b), (b, ob)]) :
    Calls Tryz.prog 102 #[keysV Bm] w fun e w' => ∃ v ys A, e = .returned v ∧ ys.Perm (M.map Prod.fst) ∧ Own (eNat .u32) 53 v ys A ∧ St w (FP w [(Bm, mapO b), (b, ob)]) w' (A ++ [(Bm, mapO b), (b, ob)]) := by
  have h := Lib.hid (collect_keys Bm b ob M hM (by omega) w H)
  have hs' := Lib.hid hs
  have hl' := Lib.hid hl
  clear H hM hl hs hN
  go_enter Tryz.func102, Tryz.ntmps102
  go_wp2_with (go_at_call 119; refine h.out.mono ?_; rintro e w1 ⟨v, ys, A, rfl, hp, O, S1⟩)
  have hlen : ys.length ≤ N := by rw [hp.length_eq, List.length_map]; exact hl'.out
  have hsort := Lib.hid (hs'.out w1 v ys A O S1.hc.left hlen)
  clear hlen
  go_wp2_with (go_at_call 120; refine hsort.out.mono ?_; rintro e w2 ⟨rfl, zs, A', hp2, hs2, O2, S2⟩)
  go_ret
  exact ⟨v, zs, A', rfl, hp2.trans hp, O2, S1.call S2⟩
end
end Go.Proofs.YtnobknmhffaoeaaGreatDoor
namespace Go.Proofs.YtnobknmhffaoeaaGreatDoor
open Go.RowKit
theorem Rd.get {α : Type} {E : Lay α} {w : World} {B : Option Addr} {n c : Nat} {xs : List α} (h : Rd E w (.slice B n c) xs) {j : Nat} {x : α} (hj : xs[j]? = some x) :
    ∃ b off, B = some ⟨b, off, none⟩ ∧ ∀ q u, (E.enc x)[q]? = some u → w.cell? ⟨b, off + (j * E.sz + q), none⟩ = some u := by
  obtain ⟨A, c', he, h1, h2, h3⟩ := h
  injection he with hA hn hc
  subst hA
  have h0 : ∃ u, (E.enc x)[0]? = some u := ⟨_, List.getElem?_eq_getElem (by rw [E.len]; exact E.pos)⟩
  obtain ⟨u0, hu0⟩ := h0
  obtain ⟨b, off, rfl, _⟩ := h3 _ u0 (E.at_ hj hu0)
  refine ⟨b, off, rfl, fun q u hq => ?_⟩
  obtain ⟨b', off', he', hc'⟩ := h3 _ u (E.at_ hj hq)
  injection he' with he'; injection he' with e1 e2; subst e1; subst e2
  exact hc'
def dirtyAt (k : Cm) (i : Nat) : Bool := match aGet k.at_ i with
  | some f => (k.frames.getD f default).dirty
  | none => false
section
variable {z : CAt} {n : Nat} {h : CH} {k : Cm}
set_option maxRecDepth 100000 in
set_option maxHeartbeats 4000000 in
theorem cache_dirty {N : Nat} (hs : SortU32 N) (hN : N ≤ 100000) (K : CHOk n h k) (hl : k.at_.length ≤ N) (hk : ∀ p ∈ k.at_, aGet k.at_ p.1 = some p.2) (w : World) (H : HC w (cacheB z h k)) :
    Calls Tryz.prog 83 #[.pointer (some ⟨z.c, 0, none⟩)] w fun e w' => ∃ v ds A, e = .returned v ∧ Own (eNat .u32) 53 v ds A ∧ (∀ i ∈ ds, ∃ f, (i, f) ∈ k.at_) ∧ (∀ i, dirtyAt k i = true → i ∈ ds) ∧ ds.length ≤ N ∧
      St w (FP w (cacheB z h k)) w' (A ++ cacheB z h k) := by
  have hn := K.len
  subst hn
  have hno := Lib.hid (cache_none w H)
  have S := H.st
  generalize FP w (cacheB z h k) = F at *
  rw [cacheB_eq] at S
  rw [cacheB_eq]
  have c2 := S.cell 0 rfl 2 rfl
  have hkc := Lib.hid (keys_call w z.m)
  have hso := Lib.hid (fun Bm w H => sorted_keys hs hN Bm z.m h.mo k.at_ K.map hl w H)
  generalize chainB z.r z.rb h.links k.row.length ++ (h.EL ++ frB k.frames) = X at *
  have hn2 := K.n2
  have hKa := Lib.hid K.at_
  have hM := Lib.hid K.map
  have hl' := Lib.hid hl
  have hk' := Lib.hid hk
  clear hs hl hk H
  go_enter Tryz.func83, Tryz.ntmps83
  go_wp2_with (first | (go_at_call 82; refine hno.out.mono ?_; rintro e w' ⟨rfl, rfl⟩) |
    (go_at_call 103; refine hkc.out.mono ?_))
  rintro e w1 ⟨Bm, rfl, S1⟩
  have S2 : St w F w1 ([(Bm, mapO z.m), (z.m, h.mo)] ++ ([(z.c, ccO z k.frames.length h.ev), (z.f, cfO k.frames)] ++ X)) := (S.pure S1).perm (by
    simp only [List.cons_append, List.nil_append]
    refine List.Perm.cons _ ?_
    exact ((List.Perm.swap _ _ _).cons _).trans (List.Perm.swap _ _ _))
  have hso1 := Lib.hid (hso.out Bm w1 S2.hc.left)
  go_wp2_with (go_at_call 102; refine hso1.out.mono ?_)
  rintro e w2 ⟨v, ys, A, rfl, hp, O, S3⟩
  replace S3 := S2.call S3
  have S4 : St w F w2 (([(z.c, ccO z k.frames.length h.ev), (z.f, cfO k.frames), (z.m, h.mo)] ++ (X ++ A)) ++ []) := (St.right (A := [(Bm, mapO z.m)]) (S3.perm (L' := [(Bm, mapO z.m)] ++ (([(z.c, ccO z k.frames.length h.ev), (z.f, cfO k.frames), (z.m, h.mo)] ++ (X ++ A)) ++ [])) (by
    simp only [List.append_nil, List.cons_append, List.nil_append, List.append_assoc]
    refine (mid_perm A [(Bm, mapO z.m)] _).trans ?_
    simp only [List.cons_append, List.nil_append]
    refine List.Perm.cons _ ?_
    refine (mid_perm A [(z.m, h.mo), (z.c, ccO z k.frames.length h.ev), (z.f, cfO k.frames)] X).trans ?_
    simp only [List.cons_append, List.nil_append]
    refine List.Perm.trans ?_ (((List.Perm.swap _ _ _).trans ((List.Perm.swap _ _ _).cons _)))
    exact ((List.perm_append_comm.cons _).cons _).cons _)))
  have hys : ys.length ≤ N := by rw [hp.length_eq, List.length_map]; exact hl'.out
  obtain ⟨B, cc, hv, hb1, hb2⟩ := O.slice
  rw [hv] at O ⊢
  have hO := Lib.hid O
  have hpp := Lib.hid hp
  have hyl : ys.length ≤ 100000 := by omega
  clear S S1 S2 S3 hv c2 O hp
  go_wp2
  go_loopw [3, 15] (fun v3 vj wr => ∃ (j : Nat) (v : Value) (ds : List Nat) (A' : Blocks), vj = .int .i64 j ∧ v3 = v ∧ j ≤ ys.length ∧ Hid (ds = (ys.take j).filter (dirtyAt k)) ∧ Own (eNat .u32) 53 v ds A' ∧
      St w F wr (([(z.c, ccO z k.frames.length h.ev), (z.f, cfO k.frames), (z.m, h.mo)] ++ (X ++ A)) ++ A')) (fun _ vj _ => ys.length - (intOf vj).toNat)
  case atStart => exact ⟨0, _, [], [], rfl, rfl, by omega, by simp [Hid], Own.nil _ _, S4⟩
  case round =>
    obtain ⟨j, v, ds, A', rfl, rfl, hj, hds, O', Sr⟩ := hrel
    have c1 := Sr.cell 0 rfl 1 rfl
    have c2 := Sr.cell 0 rfl 2 rfl
    by_cases hlt : j < ys.length
    · have hyj := List.getElem?_eq_getElem hlt
      generalize hi : ys[j] = i at hyj
      have hikey : i ∈ k.at_.map Prod.fst := hpp.out.mem_iff.1 (List.mem_of_getElem? hyj)
      obtain ⟨⟨i', f⟩, hm, rfl⟩ := List.mem_map.1 hikey
      have hg := hk'.out _ hm
      have hfn : f < k.frames.length := hKa.out _ hm
      obtain ⟨b, off, rfl, hcy⟩ := (hO.out.rd (St.swap (A := [(z.c, ccO z k.frames.length h.ev), (z.f, cfO k.frames), (z.m, h.mo)] ++ X) (B := A) ((Sr.left).cast (by simp))).hc.left).get hyj
      have cy := hcy 0 _ rfl
      have hx := List.getElem?_eq_getElem hfn
      generalize hxx : k.frames[f] = x at hx
      have c3 := Sr.cell 1 rfl (f * 4 + 2) ((fm_get encF_len k.frames f 2 x hx (by omega)).trans rfl)
      have hlk : ∀ dr, (Instr.lookup 129 (.map (some z.m)) (.int .u32 i') false).run Tryz.prog { wr with drawn := dr } = .ok (.int .i64 f) { wr with drawn := dr } := by
        intro dr
        have := run_lookup_map (P := Tryz.prog) (w := { wr with drawn := dr }) (Sr.hc.at_ 2 (k := z.m) (o := h.mo) rfl) hM.out 129 53 3 Tryz.underlying129 Tryz.underlying53 int_zero i'
        rw [hg] at this; exact this
      have hd : dirtyAt k i' = x.dirty := by unfold dirtyAt; rw [hg]; simp only; rw [List.getD_eq_getElem?_getD, hx]; rfl
      have htk : ys.take (j + 1) = ys.take j ++ [i'] := by rw [List.take_add_one, hyj]; rfl
      simp only [eNat, Nat.mul_one, Nat.add_zero] at cy
      have hSr := Lib.hid Sr
      have hH := Lib.hid (And.intro hd htk)
      have hdl : Hid (ds.length + 1 ≤ 2147483648 ∧ 4 ≤ 65536) := by
        show _ ∧ _
        rw [hds.out]
        have := List.length_filter_le (dirtyAt k) (ys.take j)
        rw [List.length_take] at this; omega
      clear hyj hikey hm hg hcy hx hxx hi hd htk Sr
      cases hxd : x.dirty with
      | true =>
        rw [hxd] at c3 hH
        go_wp2_with fail
        go_still_tail 12, (by kernel_rfl)
        refine still_lookup rfl _ _ _ rfl _ _ _ rfl rfl (hlk _) ?_
        repeat still_step
        refine wpStill_nil ?_
        have hS5 := Lib.hid ((St.swap hSr.out).drew.alloc (C 53 ((eNat .u32).enc i')))
        go_wp2_with (at_builtin; refine wpl_append1 hS5.out O' rfl _ _ 62 rfl _ 4 Tryz.underlying62 info_u32 rfl rfl rfl hdl.out ?_; intro v3 w3 A3 O3 S3; obtain ⟨B3, cap3, rfl, hk1, hk2⟩ := O3.slice)
        go_roundw
        case rel =>
          refine ⟨j + 1, _, ds ++ [i'], A3, by simp, rfl, by omega, ?_, by simpa using O3, St.swap S3⟩
          show _ = _
          rw [hH.out.2, List.filter_append, hds.out]; simp [hH.out.1]
        case measure => simp [intOf]; omega
      | false =>
        rw [hxd] at c3 hH
        go_wp2_with fail
        go_still_tail 12, (by kernel_rfl)
        refine still_lookup rfl _ _ _ rfl _ _ _ rfl rfl (hlk _) ?_
        repeat still_step
        refine wpStill_nil ?_
        go_wp2
        go_roundw
        case rel =>
          refine ⟨j + 1, _, ds, A', by simp, rfl, by omega, ?_, O', hSr.out.drew⟩
          show _ = _
          rw [hH.out.2, List.filter_append, hds.out]; simp [hH.out.1]
        case measure => simp [intOf]; omega
    · go_wp2
      go_ret
      have hje : j = ys.length := by omega
      have hds' : ds = ys.filter (dirtyAt k) := by rw [hds.out, hje, List.take_length]
      refine ⟨_, ds, A', rfl, O', ?_, ?_, ?_, ?_⟩
      · intro i hi
        rw [hds'] at hi
        have := hpp.out.mem_iff.1 ((List.mem_filter.1 hi).1)
        obtain ⟨⟨i', f⟩, hm, rfl⟩ := List.mem_map.1 this
        exact ⟨f, hm⟩
      · intro i hi
        rw [hds']
        refine List.mem_filter.2 ⟨hpp.out.mem_iff.2 ?_, hi⟩
        unfold dirtyAt at hi
        cases hg : aGet k.at_ i with
        | none => rw [hg] at hi; cases hi
        | some f => exact List.mem_map.2 ⟨_, aGet_mem hg, rfl⟩
      · rw [hds']
        have := List.length_filter_le (dirtyAt k) ys
        omega
      · refine (St.left (B := A) ((St.swap Sr).cast ?_))
        simp
end
end Go.Proofs.YtnobknmhffaoeaaGreatDoor
namespace Go.Proofs.YtnobknmhffaoeaaGreatDoor
open Go.RowKit
section
variable {z : CAt} {n : Nat} {h : CH} {k : Cm} {img : List (List UInt8)}
theorem setF_ok (K : CHOk n h k) {f : Nat} {x : Fr} (hx : k.frames[f]? = some x) : CHOk n h (setF k f { x with dirty := false }) :=
  K.setF f _ (K.fr x (List.mem_of_getElem? hx))
set_option maxRecDepth 100000 in
set_option maxHeartbeats 4000000 in
theorem cache_flush {N : Nat} (hs : SortU32 N) (hN : N ≤ 100000) (K : CHOk n h k) {d : Dv} (I : CInv n img k d []) (hl : n ≤ N) (w : World) (H : HC w (cacheB z h k ++ devB z.dv d)) :
    Calls Tryz.prog 57 #[.pointer (some ⟨z.c, 0, none⟩)] w fun e w' => e = .returned (.int .i64 0) ∧ ∃ k' d', CHOk n h k' ∧ CInv n img k' d' [] ∧ d'.img = img ∧ d'.blocks = d.blocks ∧ d'.bytes = d.bytes ∧
      St w (FP w (cacheB z h k ++ devB z.dv d)) w' (cacheB z h k' ++ devB z.dv d') := by
  have hat : ∀ p ∈ k.at_, aGet k.at_ p.1 = some p.2 := fun p hp => aGet_some I.keys hp
  have hno := Lib.hid (cache_none w H.left)
  have hdi := Lib.hid (cache_dirty hs hN K (Nat.le_trans I.at_len hl) hat w H.left)
  have S := H.st
  generalize FP w (cacheB z h k ++ devB z.dv d) = F at *
  have hat' := Lib.hid hat
  have hI := Lib.hid I
  have hK := Lib.hid K
  clear hs hl H hat I K
  go_enter Tryz.func57, Tryz.ntmps57
  go_wp2_with (first | (go_at_call 82; refine hno.out.mono ?_; rintro e w' ⟨rfl, rfl⟩) | (go_at_call 83; refine hdi.out.mono ?_))
  rintro e w1 ⟨v, ds, A, rfl, O, hkeys, hdirty, hdl, S1⟩
  replace S1 := S.call S1
  obtain ⟨B, cc, rfl, hb1, hb2⟩ := O.slice
  have hO := Lib.hid O
  have hkeys := Lib.hid hkeys
  have hdirty := Lib.hid hdirty
  have hdl' : ds.length ≤ 100000 := by omega
  clear S O hdl hN hdi hno
  go_wp2
  go_loopw [10] (fun vj wr => ∃ (j : Nat) (k' : Cm) (d' : Dv), vj = .int .i64 j ∧ j ≤ ds.length ∧ Hid (CHOk n h k' ∧ CInv n img k' d' [] ∧ k'.at_ = k.at_ ∧ d'.blocks = d.blocks ∧ d'.bytes = d.bytes ∧ ∀ i, i ∉ ds.drop j → d'.img[i]? = img[i]?) ∧
      St w F wr (cacheB z h k' ++ (devB z.dv d' ++ A))) (fun vj _ => ds.length - (intOf vj).toNat)
  case atStart =>
    refine ⟨0, k, d, rfl, by omega, ⟨hK.out, hI.out, rfl, rfl, rfl, fun i hi => ?_⟩, ?_⟩
    · rw [List.drop_zero] at hi
      refine hI.out.clean i (fun f x hm hx => ?_)
      cases hxd : x.dirty with
      | false => rfl
      | true =>
        refine absurd (hdirty.out i ?_) hi
        unfold dirtyAt
        rw [hat'.out _ hm]
        simp only
        rw [List.getD_eq_getElem?_getD, hx]; exact hxd
    · exact (St.swap (A := A) (S1.cast (List.append_assoc _ _ _))).cast (List.append_assoc _ _ _)
  case round =>
    obtain ⟨j, k', d', rfl, hj, hIk, Sr⟩ := hrel
    by_cases hlt : j < ds.length
    · obtain ⟨K', I', ha', hb', hy', hr'⟩ := hIk.out
      have hdj := List.getElem?_eq_getElem hlt
      generalize hi : ds[j] = i at hdj
      obtain ⟨f, hm⟩ := hkeys.out i (List.mem_of_getElem? hdj)
      have hg : aGet k'.at_ i = some f := by rw [ha']; exact hat'.out _ hm
      have hm' : (i, f) ∈ k'.at_ := by rw [ha']; exact hm
      obtain ⟨x, hx, hxb, _⟩ := I'.fr i f hm'
      have hdr : ds.drop j = i :: ds.drop (j + 1) := by rw [List.drop_eq_getElem_cons hlt, hi]
      rw [hdr] at hr'
      have hback := Lib.hid (cache_back I'.dok K' f x hx (I'.dirty x (List.mem_of_getElem? hx)) wr.drew ((Sr.cast (List.append_assoc _ _ _).symm).left.drew.hc))
      have hinv := Lib.hid (back_inv I' hm' hx _ hr')
      have hK2 := Lib.hid (setF_ok K' hx)
      have hfn : f < k'.frames.length := (List.getElem?_eq_some_iff.1 hx).1
      have hn := K'.len
      obtain ⟨b, off, rfl, hcy⟩ := (hO.out.rd (St.swap (A := cacheB z h k' ++ devB z.dv d') (B := A) (Sr.cast (List.append_assoc _ _ _).symm)).hc.left).get hdj
      have cy := hcy 0 _ rfl
      simp only [eNat, Nat.mul_one, Nat.add_zero] at cy
      have hSr := Lib.hid (Sr.cast (List.append_assoc _ _ _).symm)
      rw [cacheB_eq] at Sr
      have c1 := Sr.cell 0 rfl 1 rfl
      have c2 := Sr.cell 0 rfl 2 rfl
      have hlk : ∀ dr, (Instr.lookup 129 (.map (some z.m)) (.int .u32 i) false).run Tryz.prog { wr with drawn := dr } = .ok (.int .i64 f) { wr with drawn := dr } := by
        intro dr
        have := run_lookup_map (P := Tryz.prog) (w := { wr with drawn := dr }) (Sr.hc.at_ 2 (k := z.m) (o := h.mo) rfl) K'.map 129 53 3 Tryz.underlying129 Tryz.underlying53 int_zero i
        rw [hg] at this; exact this
      have hab := Lib.hid (And.intro ha' (And.intro hb' hy'))
      have hn2 := K'.n2
      have hfl : Hid (f < n) := hn ▸ hfn
      clear hdj hi hm hg hm' hx hxb hdr hr' hcy Sr K' I' ha' hb' hy' hn
      go_wp2_with fail
      go_still_tail 12, (by kernel_rfl)
      refine still_lookup rfl _ _ _ rfl _ _ _ rfl rfl (hlk _) ?_
      repeat still_step
      refine wpStill_nil ?_
      go_wp2_with (go_at_call 84; refine hback.out.mono ?_; rintro e w2 ⟨rfl, S2⟩)
      go_roundw
      case rel =>
        obtain ⟨i1, i2, i3, i4⟩ := hinv.out
        exact ⟨j + 1, setF k' f { x with dirty := false }, backD d' x, by simp, by omega, ⟨hK2.out, i1, hab.out.1, i2.trans hab.out.2.1, i3.trans hab.out.2.2, i4⟩, (hSr.out.drew.call S2).cast (List.append_assoc _ _ _)⟩
      case measure => simp [intOf]; omega
    · go_wp2
      go_ret
      have hje : j = ds.length := by omega
      obtain ⟨K', I', ha', hb', hy', hr'⟩ := hIk.out
      refine ⟨rfl, k', d', K', I', ?_, hb', hy', (Sr.cast (List.append_assoc _ _ _).symm).left⟩
      apply List.ext_getElem?
      intro i
      exact hr' i (by rw [hje, List.drop_length]; simp)
end
end Go.Proofs.YtnobknmhffaoeaaGreatDoor
