/- shelf: a block is laid. shelf: Flush, Config, Make. dev, on: the image, and a new device. shelf.New, of a device of noughts. -/
import Derived.Test.YtnobknmhffaoeaaGreatDoorQEnc
import Derived.Test.YtnobknmhffaoeaaGreatDoorQPool
import Derived.Test.YtnobknmhffaoeaaGreatDoorQDev
set_option linter.unusedVariables false
set_option linter.unusedSimpArgs false
namespace Go.Proofs.YtnobknmhffaoeaaGreatDoor
open Go.RowKit
def zeroB (n : Nat) : List UInt8 := List.replicate n 0
/-- A device's image behind some blocks that were made. -/
def imgOf (q : Cn) (made : List (List UInt8)) : List (List UInt8) := (zeroB q.bytes :: made) ++ List.replicate (q.blocks - 1 - made.length) (zeroB q.bytes)
def heldN (n m : Nat) : List Bool := List.replicate (m + 1) true ++ List.replicate (n - (m + 1)) false
theorem held_zero (n : Nat) (h : 1 ≤ n) : (List.replicate n false).set 0 true = heldN n 0 := by
  obtain ⟨k, rfl⟩ : ∃ k, n = k + 1 := ⟨n - 1, by omega⟩
  simp [heldN, List.replicate_succ]
theorem held_len (n m : Nat) (h : m + 1 ≤ n) : (heldN n m).length = n := by simp [heldN]; omega
theorem held_get (n m i : Nat) (hi : i < n) : (heldN n m)[i]? = some (decide (i ≤ m)) := by
  unfold heldN
  by_cases h : i < m + 1
  · rw [List.getElem?_append_left (by simpa using h)]; simp [h]; omega
  · rw [List.getElem?_append_right (by simpa using h)]
    rw [List.getElem?_replicate, if_pos (by simp; omega)]; simp; omega
theorem held_first (n m : Nat) (h : m + 1 < n) : firstFrom (heldN n m) false 0 = some (m + 1) := by
  unfold firstFrom
  refine find_range _ _ _ (by rw [held_len n m (by omega)]; exact h) ?_ (fun j hj => ?_)
  · rw [List.getD_eq_getElem?_getD, held_get n m (m + 1) h]; simp
  · rw [List.getD_eq_getElem?_getD, held_get n m j (by omega)]; simp; omega
theorem held_set (n m : Nat) (h : m + 1 < n) : (heldN n m).set (m + 1) true = heldN n (m + 1) := by
  apply List.ext_getElem?
  intro i
  by_cases hi : i < n
  · by_cases he : m + 1 = i
    · subst he
      rw [List.getElem?_set_self (by rw [held_len n m (by omega)]; exact h), held_get n (m + 1) (m + 1) hi]; simp
    · rw [List.getElem?_set_ne he, held_get n m i hi, held_get n (m + 1) i hi]
      congr 1; simp; omega
  · rw [List.getElem?_eq_none (by rw [List.length_set, held_len n m (by omega)]; omega), List.getElem?_eq_none (by rw [held_len n (m + 1) (by omega)]; omega)]
theorem img_len (q : Cn) (made : List (List UInt8)) (h : made.length + 1 ≤ q.blocks) : (imgOf q made).length = q.blocks := by simp [imgOf]; omega
theorem img_set (q : Cn) (made : List (List UInt8)) (b : List UInt8) (h : made.length + 1 < q.blocks) : (imgOf q made).set (made.length + 1) b = imgOf q (made ++ [b]) := by
  obtain ⟨k, hk⟩ : ∃ k, q.blocks - 1 - made.length = k + 1 := ⟨q.blocks - 1 - made.length - 1, by omega⟩
  have hk2 : q.blocks - 1 - (made ++ [b]).length = k := by simp; omega
  unfold imgOf
  rw [hk, hk2, List.set_append_right _ _ (by simp)]
  simp [List.replicate_succ]
abbrev shO (q : Cn) (z : CAt) (p : PAt) : Obj := C 95 (q.c.cells ++ [.pointer (some ⟨z.dv.g, 0, none⟩), .pointer (some ⟨z.c, 0, none⟩), .pointer (some ⟨p.p, 0, none⟩), .int .u32 0])
def shB (q : Cn) (s : Nat) (z : CAt) (h : CH) (k : Cm) (d : Dv) (p : PAt) (W : List Nat) (m : Nat) : Blocks :=
  [(s, shO q z p)] ++ ((cacheB z h k ++ devB z.dv d) ++ poolB p W q.blocks ((heldN q.blocks m).count true))
structure ShOk (q : Cn) (made : List (List UInt8)) (h : CH) (k : Cm) (d : Dv) (p : PAt) (W : List Nat) : Prop where
  ch : CHOk q.frames h k
  inv : CInv q.frames (imgOf q made) k d []
  blocks : d.blocks = q.blocks
  bytes : d.bytes = q.bytes
  pool : PoolOk p q.blocks W (heldN q.blocks made.length)
  atle : ∀ x ∈ k.at_, x.1 ≤ made.length
section
variable {q : Cn} {made : List (List UInt8)} {s : Nat} {z : CAt} {h : CH} {k : Cm} {d : Dv} {p : PAt} {W : List Nat}
set_option maxHeartbeats 1000000 in
theorem shelf_made (w : World) (H : HC w (shB q s z h k d p W made.length)) : Calls Tryz.prog 56 #[.pointer (some ⟨s, 0, none⟩)] w fun e w' => e = .returned (.int .i64 0) ∧ w = w' := by
  have S := H.st
  unfold shB at S
  have c9 : w.cell? ⟨s, 9, none⟩ = some (.pointer (some ⟨z.c, 0, none⟩)) := S.cell 0 rfl 9 rfl
  clear S H
  go_enter Tryz.func56, Tryz.ntmps56
  go_wp2
  go_ret
  exact ⟨rfl, rfl⟩
theorem laid_eq {k1 : Cm} {f i : Nat} {u u' : Value} {L L' : Blocks} {bs nb : List UInt8} (hf : f ∉ k1.row) (hi : ∀ x ∈ k1.at_, x.1 ≠ i) :
    { setF (setF (putK k1 f ⟨i, u, nb, L, true, 0⟩) f { ({ (⟨i, u, nb, L, true, 0⟩ : Fr) with pins := 1 } : Fr) with v := u', x := bs, L := L', dirty := true }) f { ({ ({ (⟨i, u, nb, L, true, 0⟩ : Fr) with pins := 1 } : Fr) with v := u', x := bs, L := L', dirty := true } : Fr) with pins := 0 } with row := f :: (setF (putK k1 f ⟨i, u, nb, L, true, 0⟩) f { ({ (⟨i, u, nb, L, true, 0⟩ : Fr) with pins := 1 } : Fr) with v := u', x := bs, L := L', dirty := true }).row.erase f } = laidK k1 f i u' bs L' := by
  unfold setF putK laidK
  simp only [List.set_set, List.erase_of_not_mem hf]
  rw [aPut_none hi]
set_option maxRecDepth 100000 in
set_option maxHeartbeats 1000000 in
theorem shelf_lay (hq : q.Good) (K : ShOk q made h k d p W) (hm : made.length + 1 < q.blocks) (v : Value) (bs : List UInt8) (hbs : bs.length = q.bytes) (A : Blocks) (O : Own eByte 5 v bs A) (hs : List Bool) (w : World)
    (H : HC w ([(s, shO q z p)] ++ ((cacheB z h k ++ devB z.dv d) ++ A))) :
    Calls Tryz.prog 75 #[.pointer (some ⟨s, 0, none⟩), .int .u32 (made.length + 1 : Nat), v] w fun e w' => e = .returned (.int .i64 0) ∧ ∃ h' k' d', CHOk q.frames h' k' ∧ CInv q.frames (imgOf q (made ++ [bs])) k' d' [] ∧ d'.blocks = q.blocks ∧ d'.bytes = q.bytes ∧ (∀ x ∈ k'.at_, x.1 ≤ made.length + 1) ∧
      St w (FP w ([(s, shO q z p)] ++ ((cacheB z h k ++ devB z.dv d) ++ A))) w' ([(s, shO q z p)] ++ ((cacheB z h' k' ++ devB z.dv d') ++ A)) := by
  have S := H.st
  generalize FP w ([(s, shO q z p)] ++ ((cacheB z h k ++ devB z.dv d) ++ A)) = F at *
  obtain ⟨m, hmm⟩ : ∃ m, m = made.length + 1 := ⟨_, rfl⟩
  rw [← hmm] at hm ⊢
  have hat : aGet k.at_ m = none := aGet_none.2 (fun x hx e => by have := K.atle x hx; omega)
  have hib : m < d.blocks := by rw [K.blocks]; exact hm
  have hr1 := hq.r1
  obtain ⟨f, k1, d1, hro, I1, e1, e2, e3⟩ := room_inv K.inv (by omega)
  have hfn : f < q.frames := I1.lt f (by simp)
  have hnod := I1.nod
  have hfr : f ∉ k1.row := fun hh => (List.nodup_append.1 hnod).2.2 f (List.mem_append_right _ hh) f (by simp) rfl
  have hi1 := e3 m hat
  have hi1' := aGet_none.1 hi1
  have hE : k.empty.length ≤ 5000 := by
    have := K.inv.full
    simp only [List.length_append] at this
    have := hq.r2; omega
  have hbd : bs.length = d1.bytes := by rw [e2, K.bytes]; exact hbs
  have hfresh := Lib.hid (fun w H => cache_fresh_new (z := z) K.ch K.inv.dok K.inv.dirty hE m hib hat hfn e2 hro w H)
  have c9 : w.cell? ⟨s, 9, none⟩ = some (.pointer (some ⟨z.c, 0, none⟩)) := S.cell 0 rfl 9 rfl
  have c11 : w.cell? ⟨s, 11, none⟩ = some (.int .u32 0) := S.cell 0 rfl 11 rfl
  have k0 : ((m : Int) == 0) = false := by rw [beq_eq_false_iff_ne]; omega
  have S1 : St w F w ((cacheB z h k ++ devB z.dv d) ++ ([(s, shO q z p)] ++ A)) := S.perm (mid_perm _ _ _)
  have hfresh1 := Lib.hid (hfresh.out w S1.hc.left)
  have hS1 := Lib.hid S1
  have hKK := Lib.hid K
  have hO := Lib.hid O
  have hpk : Hid ((putK k1 f ⟨m, Value.slice none 0 0, noughts d.bytes, [], true, 0⟩).row = k1.row) := by show _ = _; unfold putK; simp [List.erase_of_not_mem hfr]
  replace I1 := Lib.hid I1
  replace hmm := Lib.hid hmm
  have hl1 := Lib.hid I1.out.len
  obtain ⟨B, cc, hv, _, _⟩ := O.slice
  have hd1 := Lib.hid e1
  have hd2 := Lib.hid e2
  have hat2 : ∀ u L, aGet (putK k1 f ⟨m, u, noughts d.bytes, L, true, 0⟩).at_ m = some f := fun u L => by
    show aGet (aPut k1.at_ m f) m = some f
    rw [aPut_none hi1']
    refine aGet_some ?_ (List.mem_append_right _ (by simp))
    rw [List.map_append]
    refine List.nodup_append.2 ⟨I1.out.keys, by simp, fun a ha b hb e => ?_⟩
    obtain ⟨x, hx1, hx2⟩ := List.mem_map.1 ha
    simp at hb
    exact hi1' x hx1 (hx2.trans (e.trans hb))
  replace hat2 := Lib.hid hat2
  have hle1 : Hid (∀ x ∈ k1.at_, x.1 ≤ made.length) := by
    intro x hx
    cases hg : aGet k.at_ x.1 with
    | none => exact absurd rfl (aGet_none.1 (e3 _ hg) x hx)
    | some g => exact K.atle (x.1, g) (aGet_mem hg)
  replace hbd := Lib.hid hbd
  clear hbs
  clear S S1 K O hat hro hnod hE H e1 e2 e3 hib
  rw [hv] at hO ⊢
  go_enter Tryz.func75, Tryz.ntmps75
  go_wp2_with (go_at_call 98; refine hfresh1.out.mono ?_)
  rintro e w1 ⟨rfl, h1, u, L, Ou, K1, S2⟩
  have S3 := hS1.out.call S2
  have c9 : w1.cell? ⟨s, 9, none⟩ = some (.pointer (some ⟨z.c, 0, none⟩)) := S3.right.cell 0 rfl 9 rfl
  have hlen1 : f < (putK k1 f ⟨m, u, noughts d.bytes, L, true, 0⟩).frames.length := by rw [K1.len]; exact hfn
  have hx1 : (putK k1 f ⟨m, u, noughts d.bytes, L, true, 0⟩).frames[f]? = some ({ (⟨m, u, noughts d.bytes, L, true, 0⟩ : Fr) with pins := 1 } : Fr) := by
    show (k1.frames.set f _)[f]? = _
    rw [List.getElem?_set_self (by rw [hl1.out]; exact hfn)]
  have hrd : Rd eByte w1 (.slice B bs.length cc) bs := hO.out.rd (S3.right.hc.right (A := [(s, shO q z p)]))
  have hwr := Lib.hid (cache_write K1 I1.out.dok m f (hat2.out u L) _ hx1 (by show 1 ≤ 1; omega) (by show 1 ≤ 1000000000; omega) _ bs hbd.out w1 hrd S3.hc.left)
  have hS3 := Lib.hid S3
  replace K1 := Lib.hid K1
  replace hx1 := Lib.hid hx1
  clear S2 S3 hrd hlen1 Ou hfresh hfresh1
  go_wp2_with (go_at_call 97; refine hwr.out.mono ?_)
  rintro e w2 ⟨rfl, u', L', Ou', S4⟩
  have S5 := hS3.out.call S4
  have c9 : w2.cell? ⟨s, 9, none⟩ = some (.pointer (some ⟨z.c, 0, none⟩)) := S5.right.cell 0 rfl 9 rfl
  have K2 := K1.out.setF f ({ ({ (⟨m, u, noughts d.bytes, L, true, 0⟩ : Fr) with pins := 1 } : Fr) with v := u', x := bs, L := L', dirty := true } : Fr) Ou'
  have hx2 : (setF (putK k1 f ⟨m, u, noughts d.bytes, L, true, 0⟩) f ({ ({ (⟨m, u, noughts d.bytes, L, true, 0⟩ : Fr) with pins := 1 } : Fr) with v := u', x := bs, L := L', dirty := true } : Fr)).frames[f]? = some ({ ({ (⟨m, u, noughts d.bytes, L, true, 0⟩ : Fr) with pins := 1 } : Fr) with v := u', x := bs, L := L', dirty := true } : Fr) := by
    show ((putK k1 f _).frames.set f _)[f]? = _
    rw [List.getElem?_set_self (by rw [K1.out.len]; exact hfn)]
  have hun := Lib.hid (cache_unpin K2 m f (hat2.out u L) _ hx2 rfl w2 S5.hc.left.left)
  have hS5 := Lib.hid S5
  clear S4 S5 K2 hx2 hwr
  go_wp2_with (go_at_call 99; refine hun.out.mono ?_)
  rintro e w3 ⟨rfl, h3, K3, S6⟩
  have S7 := (hS5.out.cast (List.append_assoc _ _ _)).call S6
  rw [laid_eq hfr hi1'] at K3 S7
  go_wp2
  go_ret
  refine ⟨rfl, h3, laidK k1 f m u' bs L', d1, K3, ?_, hd1.out.trans hKK.out.blocks, hd2.out.trans hKK.out.bytes, ?_, ?_⟩
  · have := laid_inv I1.out hi1 (by rw [hd1.out, hKK.out.blocks]; exact hm) u' bs L' hbd.out
    have e1 : (imgOf q made).set m bs = imgOf q (made ++ [bs]) := by rw [hmm.out]; exact img_set q made bs (by rw [← hmm.out]; exact hm)
    rw [e1] at this
    exact this
  · intro x hx
    rcases List.mem_append.1 hx with hx | hx
    · have h1 := hle1.out x hx
      have h2 := hmm.out
      omega
    · simp at hx; subst hx; exact Nat.le_refl _
  · exact (S7.cast (List.append_assoc _ _ _).symm).perm (mid_perm _ _ _).symm
end
end Go.Proofs.YtnobknmhffaoeaaGreatDoor
namespace Go.Proofs.YtnobknmhffaoeaaGreatDoor
open Go.RowKit
theorem permA {α : Type} (G A S C P : List α) : ((G ++ A) ++ (S ++ (C ++ P))).Perm (P ++ ((S ++ (C ++ A)) ++ G)) := by
  refine List.perm_append_comm.trans (List.Perm.trans ?_ List.perm_append_comm)
  simp only [List.append_assoc]
  refine List.Perm.append_left _ (List.Perm.append_left _ ?_)
  refine (mid_perm P G A).trans (List.Perm.trans ?_ (mid_perm A G P).symm)
  exact List.Perm.append_left _ List.perm_append_comm
theorem permB {α : Type} (G A S C P : List α) : ((S ++ (C ++ A)) ++ (P ++ G)).Perm ((S ++ (C ++ P)) ++ (A ++ G)) := by
  simp only [List.append_assoc]
  exact List.Perm.append_left _ (List.Perm.append_left _ (mid_perm A P G))
section
variable {q : Cn} {made : List (List UInt8)} {s : Nat} {z : CAt} {h : CH} {k : Cm} {d : Dv} {p : PAt} {W : List Nat}
set_option maxRecDepth 100000 in
set_option maxHeartbeats 1000000 in
theorem shelf_flush {N : Nat} (hs : SortU32 N) (hN : N ≤ 100000) (K : ShOk q made h k d p W) (hl : q.frames ≤ N) (w : World) (H : HC w (shB q s z h k d p W made.length)) :
    Calls Tryz.prog 22 #[.pointer (some ⟨s, 0, none⟩)] w fun e w' => e = .returned (.int .i64 0) ∧ ∃ k' d', d'.Ok ∧ d'.blocks = q.blocks ∧ d'.bytes = q.bytes ∧ d'.img = imgOf q made ∧ St w (FP w (shB q s z h k d p W made.length)) w' (shB q s z h k' d' p W made.length) := by
  have S := H.st
  have hmd := Lib.hid (shelf_made w H)
  generalize FP w (shB q s z h k d p W made.length) = F at *
  unfold shB at S
  have c9 : w.cell? ⟨s, 9, none⟩ = some (.pointer (some ⟨z.c, 0, none⟩)) := S.cell 0 rfl 9 rfl
  have S1 := S.perm (mid_perm _ _ _)
  have hfl := Lib.hid (cache_flush hs hN K.ch K.inv hl w S1.hc.left)
  have hS1 := Lib.hid S1
  have hK := Lib.hid K
  clear S S1 H hs hN hl K
  go_enter Tryz.func22, Tryz.ntmps22
  go_wp2_with (first | (go_at_call 56; refine hmd.out.mono ?_; rintro e w' ⟨rfl, rfl⟩) | (go_at_call 57; refine hfl.out.mono ?_))
  rintro e w1 ⟨rfl, k', d', K', I', e1, e2, e3, S2⟩
  have S3 := hS1.out.call S2
  go_wp2
  go_ret
  exact ⟨rfl, k', d', I'.dok, e2.trans hK.out.blocks, e3.trans hK.out.bytes, e1, S3.perm (mid_perm _ _ _).symm⟩
set_option maxRecDepth 100000 in
set_option maxHeartbeats 1000000 in
theorem shelf_config (w : World) (H : HC w (shB q s z h k d p W made.length)) :
    Calls Tryz.prog 50 #[.pointer (some ⟨s, 0, none⟩)] w fun e w' => e = .returned q.c.v ∧ St w (FP w []) w' [] := by
  have S := H.st
  unfold shB at S
  have g0 : w.cell? ⟨s, 0, none⟩ = some (.int .i64 (q.blocks : Nat)) := S.cell 0 rfl 0 rfl
  have g1 : w.cell? ⟨s, 1, none⟩ = some (.int .i64 (q.bytes : Nat)) := S.cell 0 rfl 1 rfl
  have g2 : w.cell? ⟨s, 2, none⟩ = some (.int .i64 (q.frames : Nat)) := S.cell 0 rfl 2 rfl
  have g3 : w.cell? ⟨s, 3, none⟩ = some (.int .i64 (q.fan : Nat)) := S.cell 0 rfl 3 rfl
  have g4 : w.cell? ⟨s, 4, none⟩ = some (.int .i64 (q.buffer : Nat)) := S.cell 0 rfl 4 rfl
  have g5 : w.cell? ⟨s, 5, none⟩ = some (.int .i64 (q.leaf : Nat)) := S.cell 0 rfl 5 rfl
  have g6 : w.cell? ⟨s, 6, none⟩ = some (.int .i64 (q.key : Nat)) := S.cell 0 rfl 6 rfl
  have g7 : w.cell? ⟨s, 7, none⟩ = some (.int .i64 (q.val : Nat)) := S.cell 0 rfl 7 rfl
  have S0 := St.nil w
  have hlt : s < w.heap.size := S.lt 0 rfl
  clear S H
  go_enter Tryz.func50, Tryz.ntmps50
  go_wp2_with (refine wpl_alloc S0 rfl _ rfl _ (fun w => by first | exact Tryz.zeroValue23 w | kernel_rfl) ?_)
  intro g w1 hg S1
  have kept : ∀ off v, w.cell? ⟨s, off, none⟩ = some v → w1.cell? ⟨s, off, none⟩ = some v := fun off v h => (World.cell?_of_block (w := w) (w' := w1) (a := ⟨s, off, none⟩) (S1.kept s hlt (fun h => by
    rcases h with h | h
    · simp [keysOf] at h
    · omega))).trans h
  replace g0 := kept _ _ g0
  replace g1 := kept _ _ g1
  replace g2 := kept _ _ g2
  replace g3 := kept _ _ g3
  replace g4 := kept _ _ g4
  replace g5 := kept _ _ g5
  replace g6 := kept _ _ g6
  replace g7 := kept _ _ g7
  have hone : Hid (∀ u ∈ ([.int .i64 (q.blocks : Nat), .int .i64 (q.bytes : Nat), .int .i64 (q.frames : Nat), .int .i64 (q.fan : Nat), .int .i64 (q.buffer : Nat), .int .i64 (q.leaf : Nat), .int .i64 (q.key : Nat), .int .i64 (q.val : Nat)] : List Value), u.oneCell' = true) := by
    intro u hu
    simp only [List.mem_cons, List.not_mem_nil, or_false] at hu
    rcases hu with rfl | rfl | rfl | rfl | rfl | rfl | rfl | rfl <;> rfl
  have hS1 := Lib.hid S1
  clear kept S0 S1
  go_wp2_with (refine wpl_store rfl _ _ _ rfl _ _ rfl _ rfl Tryz.sizeOf23 hS1.out 0 _ _ rfl ?_ ?_ ?_; (show 0 + 8 ≤ 8; omega); (exact hone.out))
  intro w2 S2 _
  go_wp2
  refine ret_cell S2 0 rfl rfl rfl rfl _ Tryz.underlying23 rfl (by kernel_rfl) ?_
  exact ⟨rfl, S2.right (A := [_])⟩
set_option maxRecDepth 100000 in
set_option maxHeartbeats 2000000 in
theorem shelf_make {N : Nat} (hs : SortU32 N) (hN2 : N ≤ 100000) (hq : q.Good) (K : ShOk q made h k d p W) (hm : made.length + 1 < q.blocks) (nd : Nd) (hg : NdGood q nd) (hN : nd.kids.length ≤ N) (kv pv bv prv : Value) (w : World) (hr : NdRd w kv pv bv prv nd)
    (H : HC w (shB q s z h k d p W made.length)) :
    Calls Tryz.prog 47 #[.pointer (some ⟨s, 0, none⟩), ndV nd.level kv pv bv prv] w fun e w' => e = .returned (.tuple #[.int .u32 (made.length + 1 : Nat), .int .i64 0]) ∧ ∃ h' k' d' W', ShOk q (made ++ [blkL q nd]) h' k' d' p W' ∧
      St w (FP w (shB q s z h k d p W made.length)) w' (shB q s z h' k' d' p W' (made ++ [blkL q nd]).length) := by
  have S := H.st
  have hmd := Lib.hid (fun w H => shelf_made (q := q) (made := made) (s := s) (z := z) (h := h) (k := k) (d := d) (p := p) (W := W) w H)
  generalize FP w (shB q s z h k d p W made.length) = F at *
  have hcl : (made ++ [blkL q nd]).length = made.length + 1 := by simp
  rw [hcl]
  have hel := enc_len hq hg
  obtain ⟨B1, c1, hv1, _, _⟩ := hr.kids.slice
  obtain ⟨B2, c2, hv2, _, _⟩ := hr.piv.slice
  obtain ⟨B3, c3, hv3, _, _⟩ := hr.buf.slice
  obtain ⟨B4, c4, hv4, _, _⟩ := hr.pairs.slice
  have henc := Lib.hid (fun w1 hr => code_encode w1 hs hN2 q hq nd hg hN kv pv bv prv hr)
  have htake := Lib.hid (fun w H => pool_take K.pool w H (made.length + 1) (held_first q.blocks made.length hm))
  rw [held_set q.blocks made.length hm] at htake
  have hlay := Lib.hid (fun v A O w H => shelf_lay (s := s) (z := z) hq K hm v (blkL q nd) hel A O [] w H)
  have hK := Lib.hid K
  have hr' := Lib.hid hr
  have hmB := Lib.hid hm
  generalize hBL : blkL q nd = BL at *
  generalize hmm : made.length + 1 = m1 at *
  replace hmm := Lib.hid hmm
  rw [hv1, hv2, hv3, hv4] at henc hr' ⊢
  clear hr hv1 hv2 hv3 hv4 hs hN2 hg hN hq K hel hcl hBL hm
  generalize nd.kids.length = n1 at *
  generalize nd.pivots.length = n2 at *
  generalize nd.buf.length = n3 at *
  generalize nd.pairs.length = n4 at *
  generalize nd.level = lv at *
  have hS := Lib.hid S
  have S0 := St.nil w
  clear S H
  go_enter Tryz.func47, Tryz.ntmps47
  go_wp2_with (refine wpl_box S0 rfl _ _ rfl _ rfl ?_)
  intro g w1 hgw S1
  replace S1 : St w (FP w []) w1 [(g, ndO lv (.slice B1 n1 c1) (.slice B2 n2 c2) (.slice B3 n3 c3) (.slice B4 n4 c4))] := S1
  have H1 : HC w1 (shB q s z h k d p W made.length) := hS.out.hc.later S1
  have hmd1 := Lib.hid (hmd.out w1 H1)
  have S1s := H1.st
  unfold shB at S1s
  have f0 : w1.cell? ⟨s, 0, none⟩ = some (.int .i64 (q.blocks : Nat)) := S1s.cell 0 rfl 0 rfl
  have f1 : w1.cell? ⟨s, 1, none⟩ = some (.int .i64 (q.bytes : Nat)) := S1s.cell 0 rfl 1 rfl
  have f2 : w1.cell? ⟨s, 2, none⟩ = some (.int .i64 (q.frames : Nat)) := S1s.cell 0 rfl 2 rfl
  have f3 : w1.cell? ⟨s, 3, none⟩ = some (.int .i64 (q.fan : Nat)) := S1s.cell 0 rfl 3 rfl
  have f4 : w1.cell? ⟨s, 4, none⟩ = some (.int .i64 (q.buffer : Nat)) := S1s.cell 0 rfl 4 rfl
  have f5 : w1.cell? ⟨s, 5, none⟩ = some (.int .i64 (q.leaf : Nat)) := S1s.cell 0 rfl 5 rfl
  have f6 : w1.cell? ⟨s, 6, none⟩ = some (.int .i64 (q.key : Nat)) := S1s.cell 0 rfl 6 rfl
  have f7 : w1.cell? ⟨s, 7, none⟩ = some (.int .i64 (q.val : Nat)) := S1s.cell 0 rfl 7 rfl
  have d0 := S1.cell 0 rfl 0 rfl
  have d1 := S1.cell 0 rfl 1 rfl
  have d2 := S1.cell 0 rfl 2 rfl
  have d3 := S1.cell 0 rfl 3 rfl
  have d4 := S1.cell 0 rfl 4 rfl
  have henc1 := Lib.hid (henc.out w1.drew (hr'.out.st S1.drew))
  have hS1 := Lib.hid S1.drew
  clear S0 S1 H1 S1s
  go_wp2_with (go_at_call 56; refine hmd1.out.mono ?_; rintro e w' ⟨rfl, rfl⟩)
  go_region_with (go_at_call 73; refine henc1.out.mono ?_; rintro e w2 ⟨v, A, rfl, O, S2⟩)
  all_goals
    obtain ⟨B, cc, rfl, _, _⟩ := O.slice
    have S4 : St w F w2 (poolB p W q.blocks ((heldN q.blocks made.length).count true) ++ (([(s, shO q z p)] ++ ((cacheB z h k ++ devB z.dv d) ++ A)) ++ [(g, ndO lv (.slice B1 n1 c1) (.slice B2 n2 c2) (.slice B3 n3 c3) (.slice B4 n4 c4))])) :=
      (hS.out.pure (St.swap (hS1.out.pure S2))).perm (permA _ _ _ _ _)
    have c10 : w2.cell? ⟨s, 10, none⟩ = some (.pointer (some ⟨p.p, 0, none⟩)) := S4.right.left.cell 0 rfl 10 rfl
    have htake1 := Lib.hid (htake.out w2 S4.hc.left)
    have hS4 := Lib.hid S4
    clear S2 S4 f0 f1 f2 f3 f4 f5 f6 f7 d0 d1 d2 d3 d4 henc1 hmd1
    go_wp2_with (go_at_call 74; refine htake1.out.mono ?_)
    rintro e w3 ⟨rfl, W', K', S5⟩
    have S7 := (hS4.out.call S5).perm (mid_perm _ _ _)
    have hlay1 := Lib.hid (hlay.out _ A O w3 S7.hc.left)
    have hS7 := Lib.hid S7
    replace K' := Lib.hid K'
    clear S5 S7 c10
    go_wp2_with (go_at_call 75; refine hlay1.out.mono ?_)
    rintro e w4 ⟨rfl, h', k', d', K1, I1, e1, e2, e3, S8⟩
    have S9 := St.left ((hS7.out.call S8).perm (permB _ _ _ _ _))
    go_wp2
    go_ret2
    have hl : (made ++ [BL]).length = m1 := by simp; exact hmm.out
    exact ⟨rfl, h', k', d', W', ⟨K1, I1, e1, e2, by rw [hl]; exact K'.out, by rw [hl]; exact e3⟩, S9⟩
end
end Go.Proofs.YtnobknmhffaoeaaGreatDoor
namespace Go.Proofs.YtnobknmhffaoeaaGreatDoor
open Go.RowKit
section
variable (z : DAt) (d : Dv) (w : World)
set_option maxHeartbeats 1000000 in
theorem dev_image (K : d.Ok) (hlim : d.blocks * d.bytes ≤ 2147483648) (H : HC w (devB z d)) :
    Calls Tryz.prog 24 #[.pointer (some ⟨z.g, 0, none⟩)] w fun e w' => ∃ v L, e = .returned v ∧ Own eByte 5 v d.img.flatten L ∧ St w (FP w (devB z d)) w' (L ++ devB z d) := by
  have S := H.st
  have hfl := K.flat
  have hm := mul_le_32 K.b1 K.y1
  have hrd : Rd eByte w (.slice (some ⟨z.b, 0, none⟩) (d.blocks * d.bytes) (d.blocks * d.bytes)) d.img.flatten := by
    have := rd_part w (img := d.img.flatten) (spare := []) S 1 (by rw [List.append_nil]; rfl) 0 (d.blocks * d.bytes) (d.blocks * d.bytes) (by omega) (by omega) (by unfold maxLen; omega)
    rwa [List.drop_zero, List.take_of_length_le (by omega)] at this
  have hcl := Lib.hid (clone_byte w _ _ hrd (by rw [hfl]; exact hlim))
  clear hrd K H hm hfl hlim
  have c0 := S.cell 0 rfl 1 rfl
  go_enter Tryz.func24, Tryz.ntmps24
  go_wp2_with (go_at_call 59; refine hcl.out.mono ?_)
  rintro e w3 ⟨u, L, rfl, O, S3⟩
  go_wp2
  go_ret
  exact ⟨u, L, rfl, O, S.pure S3⟩
/-- A device of noughts. -/
def Dv.zero (blocks bytes : Nat) : Dv := ⟨blocks, bytes, List.replicate blocks (List.replicate bytes 0), 0, 0⟩
theorem Dv.zero_ok {blocks bytes : Nat} (h1 : 5 ≤ blocks) (h2 : blocks ≤ 65536) (h3 : 1 ≤ bytes) (h4 : bytes ≤ 65536) : (Dv.zero blocks bytes).Ok :=
  ⟨by show 1 ≤ blocks; omega, h2, h3, h4, by simp [Dv.zero], fun x hx => by have := (List.mem_replicate.1 hx).2; rw [this]; simp [Dv.zero]⟩
def rightDv (blocks bytes : Int) : Bool := decide (5 ≤ blocks ∧ blocks ≤ 65536 ∧ 1 ≤ bytes ∧ bytes ≤ 65536)
set_option maxHeartbeats 1000000 in
theorem dev_right (x y : Int) : Calls Tryz.prog 42 #[.int .i64 x, .int .i64 y] w fun e w' => e = .returned (.bool (rightDv x y)) ∧ w = w' := by
  have hy : Hid ((5 ≤ x ∧ x ≤ 65536 ∧ 1 ≤ y ∧ y ≤ 65536) → rightDv x y = true) := by show _ → _; intro h; exact decide_eq_true h
  have hn : Hid (¬ (5 ≤ x ∧ x ≤ 65536 ∧ 1 ≤ y ∧ y ≤ 65536) → rightDv x y = false) := by show _ → _; intro h; exact decide_eq_false h
  generalize rightDv x y = r at *
  by_cases h1 : x < 5
  · go_enter Tryz.func42, Tryz.ntmps42
    go_wp2
    go_ret
    exact ⟨ret_bool (hn.out (by omega)).symm, rfl⟩
  by_cases h2 : 65536 < x
  · have b : decide (x ≤ 65536) = false := by simp; omega
    go_enter Tryz.func42, Tryz.ntmps42
    go_wp2
    go_ret
    exact ⟨ret_bool (hn.out (by omega)).symm, rfl⟩
  by_cases h3 : y < 1
  · go_enter Tryz.func42, Tryz.ntmps42
    go_wp2
    go_ret
    exact ⟨ret_bool (hn.out (by omega)).symm, rfl⟩
  by_cases h4 : 65536 < y
  · have b : decide (y ≤ 65536) = false := by simp; omega
    go_enter Tryz.func42, Tryz.ntmps42
    go_wp2
    go_ret
    exact ⟨ret_bool (hn.out (by omega)).symm, rfl⟩
  · go_enter Tryz.func42, Tryz.ntmps42
    go_wp2
    go_ret
    exact ⟨ret_bool (hy.out (by omega)).symm, rfl⟩
set_option maxHeartbeats 1000000 in
theorem dev_new_no (x y : Int) (h : rightDv x y = false) : Calls Tryz.prog 17 #[.int .i64 x, .int .i64 y] w fun e w' => e = .returned (.tuple #[.pointer none, .int .i64 2]) ∧ w = w' := by
  have hr := Lib.hid (dev_right w x y)
  rw [h] at hr
  clear h
  go_enter Tryz.func17, Tryz.ntmps17
  go_wp2_with (go_at_call 42; refine hr.out.mono ?_; rintro e w' ⟨rfl, rfl⟩)
  go_ret2
  exact ⟨rfl, rfl⟩
set_option maxHeartbeats 1000000 in
theorem dev_new (x y : Nat) (h1 : 5 ≤ x) (h2 : x ≤ 65536) (h3 : 1 ≤ y) (h4 : y ≤ 65536) : Calls Tryz.prog 17 #[.int .i64 x, .int .i64 y] w fun e w' =>
    ∃ z : DAt, e = .returned (.tuple #[.pointer (some ⟨z.g, 0, none⟩), .int .i64 0]) ∧ St w (FP w []) w' (devB z (Dv.zero x y)) := by
  have hr := Lib.hid (dev_right w x y)
  rw [show rightDv x y = true from decide_eq_true (by omega)] at hr
  have hm := mul_le_32 h2 h4
  have k1 : IntKind.i64.wrap ((x : Int) * (y : Int)) = ((x * y : Nat) : Int) := by rw [← Int.natCast_mul]; exact IntWalk.i64_in _ (by omega)
  have hcells : Hid (List.replicate (x * y) (Value.int .u8 0) = eByte.all (Dv.zero x y).img.flatten) := by
    show _ = _
    have e1 : (Dv.zero x y).img.flatten = List.replicate (x * y) 0 := by
      simp [Dv.zero]
    rw [e1, all_map]
    simp [List.map_replicate]
  have hx : IntKind.i64.wrap (x : Int) = (x : Int) := IntWalk.i64_in _ (by omega)
  clear h1 h2 h3 h4
  generalize hN : x * y = N at *
  go_enter Tryz.func17, Tryz.ntmps17
  go_wp2_with (first | (go_at_call 42; refine hr.out.mono ?_; rintro e w' ⟨rfl, rfl⟩) | (at_make; refine wpl_make (St.nil w) rfl _ _ _ rfl 5 _ _ 1 1 Tryz.underlying29 info_byte ⟨rfl, rfl, Nat.zero_lt_succ _⟩ .i64 .i64 _ _ rfl rfl ?_ ?_; (omega)))
  intro b w1 hb S1
  replace S1 : St w _ w1 [(b, C 5 (eByte.all (Dv.zero x y).img.flatten))] := hcells.out ▸ S1
  go_wp2_with (refine wpl_box S1 rfl _ _ rfl _ rfl ?_)
  intro g w2 hg S2
  go_wp2
  go_ret2
  refine ⟨⟨g, b⟩, rfl, ?_⟩
  unfold devB
  dsimp only
  rw [show (Dv.zero x y).blocks * (Dv.zero x y).bytes = N from hN]
  exact S2
end
end Go.Proofs.YtnobknmhffaoeaaGreatDoor
namespace Go.Proofs.YtnobknmhffaoeaaGreatDoor
open Go.RowKit
theorem quiet_drew {P : Program} {f : FuncId} {args : Array Value} {w : World} {n : Nat} {v : Value}
    (h : Calls P f args (w.drewN n) fun e w' => e = .returned v ∧ ∃ q, w' = (w.drewN n).drewN q) : Calls P f args (w.drewN n) fun e w'' => e = .returned v ∧ ∃ m, w'' = w.drewN m :=
  h.mono fun _ _ ⟨a, q, b⟩ => ⟨a, n + q, by rw [b, drewN_two]⟩
theorem img_new (q : Cn) (h : 1 ≤ q.blocks) : (Dv.zero q.blocks q.bytes).img = imgOf q [] := by
  obtain ⟨k, hk⟩ : ∃ k, q.blocks = k + 1 := ⟨q.blocks - 1, by omega⟩
  simp [Dv.zero, imgOf, hk, zeroB, List.replicate_succ]
abbrev tabB (t : Obj) : Blocks := [(1, t)]
theorem permC {α : Type} (S P C G : List α) : (S ++ (P ++ (C ++ G))).Perm ((S ++ (C ++ P)) ++ G) := by
  simp only [List.append_assoc]
  exact List.Perm.append_left _ (mid_perm P C G)
set_option maxRecDepth 100000 in
set_option maxHeartbeats 2000000 in
theorem shelf_new (q : Cn) (hq : q.Good) (dv : DAt) (t : Obj) (ht : TabO t) (w : World) (H : HC w (devB dv (Dv.zero q.blocks q.bytes) ++ tabB t)) :
    Calls Tryz.prog 18 #[q.c.v, .pointer (some ⟨dv.g, 0, none⟩)] w fun e w' => ∃ s z h k d p W, e = .returned (.tuple #[.pointer (some ⟨s, 0, none⟩), .int .i64 0]) ∧ z.dv = dv ∧ p.t = t ∧ ShOk q [] h k d p W ∧
      St w (FP w (devB dv (Dv.zero q.blocks q.bytes) ++ tabB t)) w' (shB q s z h k d p W 0) := by
  have S0 := H.st
  generalize FP w (devB dv (Dv.zero q.blocks q.bytes) ++ tabB t) = F at *
  have hb1 := hq.b1
  have hb2 := hq.b2
  have hr1 := hq.r1
  have hr2 := hq.r2
  have D : (Dv.zero q.blocks q.bytes).Ok := Dv.zero_ok hq.b1 hq.b2 (by have := hq.y1; omega) hq.y2
  have himg := Lib.hid (img_new q (by omega))
  have hck := Lib.hid (fun w => conf_check q.c w)
  rw [q.check hq] at hck
  have hcn := Lib.hid (fun w H => cache_new dv D q.frames (by omega) hr2 w H)
  have hbk := Lib.hid (fun w H => dev_blocks dv (Dv.zero q.blocks q.bytes) w D H)
  have hby := Lib.hid (fun w H => dev_bytes dv (Dv.zero q.blocks q.bytes) w H)
  have hpn := Lib.hid (fun w H => pool_new t ht q.blocks w H hb1 hb2)
  rw [held_zero q.blocks (by omega)] at hpn
  have hI : Hid (CInv q.frames (Dv.zero q.blocks q.bytes).img (newK q.frames) (Dv.zero q.blocks q.bytes) []) := CInv.new D
  rw [himg.out] at hI
  have hz1 : (Dv.zero q.blocks q.bytes).blocks = q.blocks := rfl
  have hz2 : (Dv.zero q.blocks q.bytes).bytes = q.bytes := rfl
  rw [hz1] at hbk
  rw [hz2] at hby
  have hz1 := Lib.hid hz1
  have hz2 := Lib.hid hz2
  generalize Dv.zero q.blocks q.bytes = d at *
  have hkb1 : ((q.blocks : Int) != (q.blocks : Int)) = false := by simp
  have hkb2 : ((q.bytes : Int) != (q.bytes : Int)) = false := by simp
  replace D := Lib.hid D
  clear ht himg H hq hb1 hb2 hr1 hr2
  unfold Cfg.v
  go_enter Tryz.func18, Tryz.ntmps18
  go_wp2_with (refine wpl_box S0 rfl _ _ rfl _ rfl ?_)
  intro g w1 hgw S1
  replace S1 : St w F w1 ([(g, cfgO q)] ++ (devB dv d ++ tabB t)) := S1.cast (by first | rfl | (rw [← cfg_cells]; rfl))
  have Fx : Hid (∀ wr R, St w F wr ([(g, cfgO q)] ++ R) → (wr.cell? ⟨g, 0, none⟩ = some (.int .i64 (q.blocks : Nat)) ∧ wr.cell? ⟨g, 1, none⟩ = some (.int .i64 (q.bytes : Nat)) ∧ wr.cell? ⟨g, 2, none⟩ = some (.int .i64 (q.frames : Nat)) ∧ wr.cell? ⟨g, 3, none⟩ = some (.int .i64 (q.fan : Nat)) ∧
     wr.cell? ⟨g, 4, none⟩ = some (.int .i64 (q.buffer : Nat)) ∧ wr.cell? ⟨g, 5, none⟩ = some (.int .i64 (q.leaf : Nat)) ∧ wr.cell? ⟨g, 6, none⟩ = some (.int .i64 (q.key : Nat)) ∧ wr.cell? ⟨g, 7, none⟩ = some (.int .i64 (q.val : Nat)))) :=
    fun wr R S => ⟨S.cell 0 rfl 0 rfl, S.cell 0 rfl 1 rfl, S.cell 0 rfl 2 rfl, S.cell 0 rfl 3 rfl, S.cell 0 rfl 4 rfl, S.cell 0 rfl 5 rfl, S.cell 0 rfl 6 rfl, S.cell 0 rfl 7 rfl⟩
  obtain ⟨f0, f1, f2, f3, f4, f5, f6, f7⟩ := Fx.out w1 _ S1
  have hck1 := Lib.hid (hck.out w1)
  have hS1 := Lib.hid S1
  clear S0 S1
  go_wp2_with (go_at_call 37; refine hck1.out.mono ?_)
  rintro e w2 ⟨rfl, S2⟩
  have S3 := hS1.out.pure S2
  rw [List.nil_append] at S3
  clear f0 f1 f2 f3 f4 f5 f6 f7 S2
  obtain ⟨f0, f1, f2, f3, f4, f5, f6, f7⟩ := Fx.out w2 _ S3
  have S4 := S3.perm (mid_perm _ _ _)
  have hcn1 := Lib.hid (hcn.out w2 S4.hc.left)
  have hS4 := Lib.hid S4
  clear S3 S4
  go_wp2_with (go_at_call 43; refine hcn1.out.mono ?_)
  rintro e w3 ⟨c, f, m, r, rb, h, rfl, K1, S5⟩
  have S6 := hS4.out.call S5
  clear f0 f1 f2 f3 f4 f5 f6 f7 S5
  have S6g := S6.perm (mid_perm _ _ _)
  obtain ⟨f0, f1, f2, f3, f4, f5, f6, f7⟩ := Fx.out w3 _ S6g
  have hbk1 := Lib.hid (fun n => hbk.out (w3.drewN n) (S6.hc.left.right.drewN n))
  have hby1 := Lib.hid (fun n => hby.out (w3.drewN n) (S6.hc.left.right.drewN n))
  have hS6 := Lib.hid S6
  clear S6 S6g
  go_wp2
  go_quiet (first | (go_at_call 44; exact quiet_drew (hbk1.out _)) | (go_at_call 45; exact quiet_eq (hby1.out _)))
  have S7 : St w F (w3.drewN nq) (tabB t ++ ((cacheB ⟨c, f, m, r, rb, dv⟩ h (newK q.frames) ++ devB dv d) ++ [(g, cfgO q)])) := ((hS6.out.drewN nq).cast (List.append_assoc _ _ _).symm).swap
  have hpn1 := Lib.hid (hpn.out _ S7.hc.left)
  have hS7 := Lib.hid S7
  clear S7
  go_wp2_with (go_at_call 46; refine hpn1.out.mono ?_)
  rintro e w4 ⟨p, W, rfl, hpt, K2, S8⟩
  have S9 := hS7.out.call S8
  clear f0 f1 f2 f3 f4 f5 f6 f7 S8
  have S9g : St w F w4 ([(g, cfgO q)] ++ (poolB p W q.blocks ((heldN q.blocks 0).count true) ++ (cacheB ⟨c, f, m, r, rb, dv⟩ h (newK q.frames) ++ devB dv d))) := (S9.cast (List.append_assoc _ _ _).symm).swap
  obtain ⟨f0, f1, f2, f3, f4, f5, f6, f7⟩ := Fx.out w4 _ S9g
  have hS9 := Lib.hid S9
  clear S9 S9g
  go_wp2_with (refine wpl_box hS9.out rfl _ _ rfl _ rfl ?_)
  intro s w5 _ S10
  go_wp2
  go_ret2
  refine ⟨s, ⟨c, f, m, r, rb, dv⟩, h, newK q.frames, d, p, W, rfl, rfl, hpt, ⟨K1, hI.out, hz1.out, hz2.out, K2, by intro x hx; simp [newK] at hx⟩, ?_⟩
  have S11 : St w F w5 ([(s, shO q ⟨c, f, m, r, rb, dv⟩ p)] ++ (poolB p W q.blocks ((heldN q.blocks 0).count true) ++ ((cacheB ⟨c, f, m, r, rb, dv⟩ h (newK q.frames) ++ devB dv d) ++ [(g, cfgO q)]))) := S10.cast (by rw [List.append_assoc (cacheB _ _ _)]; rfl)
  exact St.left (S11.perm (permC _ _ _ _))
end Go.Proofs.YtnobknmhffaoeaaGreatDoor
