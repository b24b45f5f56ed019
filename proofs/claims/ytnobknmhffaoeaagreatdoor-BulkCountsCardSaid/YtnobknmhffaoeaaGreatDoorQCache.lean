/- cache: frames of a device's blocks: what the inner calls do. cache, on: a frame is left, room is made, a block is put into a frame. cache, on: room. cache, on: put. cache, on: Write and Unpin. cache, on: Fresh. cache, on: Fresh of a block that is in a frame. cache, on: a new cache. The cache while blocks are laid: what its frames and its device hold. No program is named. The rules for a walk inside a fence, and for the rounds of a range over a function. No program is named. -/
import Derived.Test.YtnobknmhffaoeaaGreatDoorQDev
import Derived.RangeFuncNested
import Derived.RangeFuncCalls
import Derived.RangeFuncSeq
import Derived.Shelf.RegionOpen
import Derived.WalkKit
import Derived.OwnWalkIn
import Derived.TacticsInMore
import Derived.LoopNIn
import Derived.LoopIn
import Derived.Maps.RangeRun
import Derived.Sort.MapsRangeIn
set_option linter.unusedVariables false
set_option linter.unusedSimpArgs false
namespace Go.Proofs.YtnobknmhffaoeaaGreatDoor
open Go.RowKit
/-- A frame: its block, its bytes (their value, and where they lie), whether it is dirty, and how often it is pinned. -/
structure Fr where
  block : Nat
  v : Value
  x : List UInt8
  L : Blocks
  dirty : Bool
  pins : Nat
instance : Inhabited Fr := ⟨⟨0, .slice none 0 0, [], [], false, 0⟩⟩
def Fr.zero : Fr := ⟨0, .slice none 0 0, [], [], false, 0⟩
def encF (x : Fr) : List Value := [.int .u32 x.block, x.v, .bool x.dirty, .int .i64 x.pins]
theorem encF_len (x : Fr) : (encF x).length = 4 := rfl
/-- Where a cache lies: its own block, the frames, the map, the chain and its links, the device. -/
structure CAt where
  c : Nat
  f : Nat
  m : Nat
  r : Nat
  rb : Nat
  dv : DAt
/-- What of a cache nobody sees. -/
structure CH where
  mo : Obj
  ev : Value
  EL : Blocks
  links : List Link
structure Cm where
  frames : List Fr
  at_ : List (Nat × Nat)
  empty : List Nat
  row : List Nat
def frB (fr : List Fr) : Blocks := fr.flatMap Fr.L
def cacheH (z : CAt) (h : CH) (k : Cm) : Blocks :=
  (z.c, C 131 [.pointer (some ⟨z.dv.g, 0, none⟩), .slice (some ⟨z.f, 0, none⟩) k.frames.length k.frames.length, .map (some z.m), h.ev, .pointer (some ⟨z.r, 0, none⟩)]) ::
  (z.f, C 150 (k.frames.flatMap encF)) :: (z.m, h.mo) :: (chainB z.r z.rb h.links k.row.length ++ h.EL)
def cacheB (z : CAt) (h : CH) (k : Cm) : Blocks := cacheH z h k ++ frB k.frames
structure CHOk (n : Nat) (h : CH) (k : Cm) : Prop where
  len : k.frames.length = n
  n1 : 1 ≤ n
  n2 : n ≤ 4096
  map : MapIs h.mo k.at_
  emp : Own (eNat .i64) 3 h.ev k.empty h.EL
  ring : Ring n h.links k.row
  fr : ∀ x ∈ k.frames, Own eByte 5 x.v x.x x.L
  at_ : ∀ p ∈ k.at_, p.2 < n
theorem St.cast {w0 w : World} {F : Nat → Prop} {L L' : Blocks} (S : St w0 F w L) (h : L = L') : St w0 F w L' := h ▸ S
section
variable {z : CAt} {n : Nat} {h : CH} {k : Cm}
set_option maxHeartbeats 1000000 in
theorem cache_none (w : World) (H : HC w (cacheB z h k)) : Calls Tryz.prog 82 #[.pointer (some ⟨z.c, 0, none⟩)] w fun e w' => e = .returned (.bool false) ∧ w = w' := by
  have S := H.st
  unfold cacheB cacheH at S
  have c0 := S.cell 0 rfl 0 rfl
  go_enter Tryz.func82, Tryz.ntmps82
  go_wp2
  go_ret
  exact ⟨rfl, rfl⟩
/-- What there tells. -/
def thereE (blocks i : Nat) : Int := if i < blocks then 0 else 4
set_option maxRecDepth 100000 in
set_option maxHeartbeats 1000000 in
theorem cache_there {d : Dv} (D : d.Ok) (i : Nat) (hi32 : i ≤ 4294967295) (w : World) (H : HC w (cacheB z h k ++ devB z.dv d)) :
    Calls Tryz.prog 115 #[.pointer (some ⟨z.c, 0, none⟩), .int .u32 i] w fun e w' => e = .returned (.int .i64 (thereE d.blocks i)) ∧ ∃ q, w' = w.drewN q := by
  have hno := Lib.hid (cache_none w H.left)
  have hb := Lib.hid (dev_blocks z.dv d w D H.right)
  have S := H.st.left
  unfold cacheB cacheH at S
  have c0 := S.cell 0 rfl 0 rfl
  have hy : Hid (i < d.blocks → thereE d.blocks i = 0) := by show _ → _; intro h; unfold thereE; rw [if_pos h]
  have hn : Hid (¬ i < d.blocks → thereE d.blocks i = 4) := by show _ → _; intro h; unfold thereE; rw [if_neg h]
  have k5 : IntKind.i64.wrap (i : Int) = (i : Int) := IntWalk.i64_in _ (by omega)
  generalize thereE d.blocks i = r at *
  generalize d.blocks = B at *
  clear S H D hi32
  by_cases hi : i < B
  · have b : decide ((B : Int) ≤ (i : Int)) = false := by simp; omega
    go_enter Tryz.func115, Tryz.ntmps115
    go_wp2_with (first | (go_at_call 82; refine hno.out.mono ?_; rintro e w' ⟨rfl, rfl⟩) | (go_at_call 44; refine hb.out.mono ?_; rintro e w' ⟨rfl, q, rfl⟩))
    go_ret
    exact ⟨ret_int (hy.out hi).symm, _, rfl⟩
  · have b : decide ((B : Int) ≤ (i : Int)) = true := by simp; omega
    go_enter Tryz.func115, Tryz.ntmps115
    go_wp2_with (first | (go_at_call 82; refine hno.out.mono ?_; rintro e w' ⟨rfl, rfl⟩) | (go_at_call 44; refine hb.out.mono ?_; rintro e w' ⟨rfl, q, rfl⟩))
    go_ret
    exact ⟨ret_int (hn.out hi).symm, _, rfl⟩
theorem aFind_mem {k : Nat} : ∀ {M : List (Nat × Nat)} {j i b : Nat}, aFind k M j = some (i, b) → (k, b) ∈ M
  | [], j, i, b, h => by simp [aFind] at h
  | (a, c) :: M, j, i, b, h => by
    unfold aFind at h
    split at h
    · rename_i ha; subst ha; injection h with h; injection h with _ h; subst h; exact List.mem_cons_self
    · exact List.mem_cons_of_mem _ (aFind_mem h)
theorem aGet_mem {M : List (Nat × Nat)} {i f : Nat} (h : aGet M i = some f) : (i, f) ∈ M := by
  unfold aGet at h
  cases hf : aFind i M 0 with
  | none => rw [hf] at h; cases h
  | some p => rw [hf] at h; obtain ⟨a, b⟩ := p; injection h with h; subst h; exact aFind_mem hf
theorem int_zero (w : World) : (zeroValue 3).run Tryz.prog w = .ok (.int .i64 0) w := Tryz.zeroValue3 w
/-- pinned, of a block that is in no frame. -/
theorem cache_pinned_no (K : CHOk n h k) (i : Nat) (hi : aGet k.at_ i = none) (w : World) (H : HC w (cacheB z h k)) :
    Calls Tryz.prog 114 #[.pointer (some ⟨z.c, 0, none⟩), .int .u32 i] w fun e w' => e = .returned (.tuple #[.pointer none, .int .i64 8]) ∧ w = w' := by
  have hno := Lib.hid (cache_none w H)
  have S := H.st
  unfold cacheB cacheH at S
  have c0 := S.cell 0 rfl 2 rfl
  have hM := Lib.hid K.map
  have hi' := Lib.hid hi
  clear hi
  go_enter Tryz.func114, Tryz.ntmps114
  go_wp2_with (first | (go_at_call 82; refine hno.out.mono ?_; rintro e w' ⟨rfl, rfl⟩) |
    (refine wpl_lookup_ok S 2 rfl hM.out rfl _ 53 3 _ _ rfl Tryz.underlying129 Tryz.underlying53 int_zero i rfl rfl ?_; rw [hi'.out]; dsimp only [Option.getD_none, Option.isSome_none]))
  go_ret2
  exact ⟨rfl, rfl⟩
set_option maxHeartbeats 1000000 in
/-- pinned, of a block that is in a frame. -/
theorem cache_pinned (K : CHOk n h k) (i f : Nat) (hi : aGet k.at_ i = some f) (x : Fr) (hx : k.frames[f]? = some x) (hp : x.pins ≤ 1000000000) (w : World) (H : HC w (cacheB z h k)) :
    Calls Tryz.prog 114 #[.pointer (some ⟨z.c, 0, none⟩), .int .u32 i] w fun e w' =>
      e = .returned (if x.pins = 0 then .tuple #[.pointer none, .int .i64 8] else .tuple #[.pointer (some ⟨z.f, f * 4, none⟩), .int .i64 0]) ∧ w = w' := by
  have hno := Lib.hid (cache_none w H)
  have S := H.st
  unfold cacheB cacheH at S
  have c0 := S.cell 0 rfl 2 rfl
  have c1 := S.cell 0 rfl 1 rfl
  have c2 := S.cell 1 rfl (f * 4 + 3) ((fm_get encF_len k.frames f 3 x hx (by omega)).trans rfl)
  have hM := Lib.hid K.map
  have hi' := Lib.hid hi
  have hfn : f < k.frames.length := (List.getElem?_eq_some_iff.1 hx).1
  have hl2 := K.n2
  have hl := K.len
  clear hi hx hl
  by_cases h0 : x.pins = 0
  · rw [if_pos h0]
    rw [h0] at c2
    go_enter Tryz.func114, Tryz.ntmps114
    go_wp2_with (first | (go_at_call 82; refine hno.out.mono ?_; rintro e w' ⟨rfl, rfl⟩) |
      (refine wpl_lookup_ok S 2 rfl hM.out rfl _ 53 3 _ _ rfl Tryz.underlying129 Tryz.underlying53 int_zero i rfl rfl ?_; rw [hi'.out]; dsimp only [Option.getD_some, Option.isSome_some]))
    go_ret2
    exact ⟨rfl, rfl⟩
  · rw [if_neg h0]
    have k1 : ((x.pins : Int) == 0) = false := by rw [beq_eq_false_iff_ne]; omega
    go_enter Tryz.func114, Tryz.ntmps114
    go_wp2_with (first | (go_at_call 82; refine hno.out.mono ?_; rintro e w' ⟨rfl, rfl⟩) |
      (refine wpl_lookup_ok S 2 rfl hM.out rfl _ 53 3 _ _ rfl Tryz.underlying129 Tryz.underlying53 int_zero i rfl rfl ?_; rw [hi'.out]; dsimp only [Option.getD_some, Option.isSome_some]))
    go_ret2
    exact ⟨rfl, rfl⟩
/-- What back does. -/
def backK (k : Cm) (f : Nat) : Cm := { k with frames := k.frames.set f { k.frames.getD f default with dirty := false } }
def backD (d : Dv) (x : Fr) : Dv := if x.dirty then d.write x.block x.x else d
theorem frB_out {fr : List Fr} {f : Nat} {x : Fr} (hx : fr[f]? = some x) : (frB fr).Perm (x.L ++ frB (fr.set f { x with L := [] })) := by
  induction fr generalizing f with
  | nil => simp at hx
  | cons a l ih =>
    cases f with
    | zero => simp at hx; subst hx; simp [frB]
    | succ f =>
      have := ih (f := f) (by simpa using hx)
      simp only [frB, List.flatMap_cons, List.set_cons_succ] at this ⊢
      exact (this.append_left a.L).trans (by
        rw [← List.append_assoc, ← List.append_assoc]
        exact List.perm_append_comm.append_right _)
theorem cache_out {f : Nat} {x : Fr} (hx : k.frames[f]? = some x) : (cacheB z h k).Perm (x.L ++ (cacheH z h k ++ frB (k.frames.set f { x with L := [] }))) := by
  unfold cacheB
  refine ((frB_out hx).append_left _).trans ?_
  rw [← List.append_assoc, ← List.append_assoc]
  exact List.perm_append_comm.append_right _
theorem frB_same {fr : List Fr} {f : Nat} {x y : Fr} (hx : fr[f]? = some x) (h : y.L = x.L) : frB (fr.set f y) = frB fr := by
  induction fr generalizing f with
  | nil => simp at hx
  | cons a l ih =>
    cases f with
    | zero => simp at hx; subst hx; simp [frB, h]
    | succ f =>
      have := ih (f := f) (by simpa using hx)
      simp only [frB, List.flatMap_cons, List.set_cons_succ] at this ⊢
      rw [this]
theorem fset_same {α : Type} {l : List α} {i : Nat} {x : α} (h : l[i]? = some x) : l.set i x = l := by
  apply List.ext_getElem?
  intro j
  rw [List.getElem?_set]
  split
  · rename_i hj; subst hj
    split
    · exact h.symm
    · rename_i hlt; rw [List.getElem?_eq_none (by omega)]
  · rfl
theorem sz_frame : ∀ w, (sizeOf 4).run Tryz.prog w = .ok 1 w := Tryz.sizeOf4
set_option maxRecDepth 100000 in
set_option maxHeartbeats 1000000 in
theorem cache_back {d : Dv} (D : d.Ok) (K : CHOk n h k) (f : Nat) (x : Fr) (hx : k.frames[f]? = some x) (hb : x.dirty = true → x.block < d.blocks ∧ x.x.length = d.bytes) (w : World) (H : HC w (cacheB z h k ++ devB z.dv d)) :
    Calls Tryz.prog 84 #[.pointer (some ⟨z.c, 0, none⟩), .pointer (some ⟨z.f, f * 4, none⟩)] w fun e w' => e = .returned (.tuple #[]) ∧
      St w (FP w (cacheB z h k ++ devB z.dv d)) w' (cacheB z h { k with frames := k.frames.set f { x with dirty := false } } ++ devB z.dv (backD d x)) := by
  have S := H.st
  generalize FP w (cacheB z h k ++ devB z.dv d) = F at *
  have S0 := S
  have hset := Lib.hid (fm_set encF_len k.frames f 2 x { x with dirty := false } (.bool false) hx (by omega) rfl)
  have hfn : f < k.frames.length := (List.getElem?_eq_some_iff.1 hx).1
  have hfb := Lib.hid (frB_same (y := { x with dirty := false }) hx rfl)
  have hlen := Lib.hid (fm_length encF_len k.frames)
  unfold cacheB cacheH at S
  have c0 := S.cell 0 rfl 0 rfl
  have e0 := S.cell 1 rfl (f * 4) ((fm_get0 encF_len k.frames f x hx (by omega)).trans rfl)
  have e1 := S.cell 1 rfl (f * 4 + 1) ((fm_get encF_len k.frames f 1 x hx (by omega)).trans rfl)
  have e2 := S.cell 1 rfl (f * 4 + 2) ((fm_get encF_len k.frames f 2 x hx (by omega)).trans rfl)
  cases hdir : x.dirty with
  | false =>
    rw [hdir] at e2
    have hx' : k.frames.set f { x with dirty := false } = k.frames := by
      have : ({ x with dirty := false } : Fr) = x := by rw [← hdir]
      rw [this]; exact fset_same hx
    unfold backD
    rw [hx', hdir]
    go_enter Tryz.func84, Tryz.ntmps84
    go_wp2
    go_end0
    exact ⟨rfl, S0⟩
  | true =>
    rw [hdir] at e2
    obtain ⟨hb1, hb2⟩ := hb hdir
    have hO := K.fr x (List.mem_of_getElem? hx)
    have hrd : Rd eByte w x.v x.x := hO.rd ((H.left.perm (cache_out hx)).left)
    have hw := Lib.hid (dev_write z.dv d w.drew D x.block hb1 x.v x.x hb2 hrd H.right)
    have hone : x.v.oneCell' = true := by
      rcases hO with ⟨h1, _, _⟩ | ⟨b, cap, sp, h1, _⟩ <;> rw [h1] <;> rfl
    unfold backD
    rw [hdir]
    clear hb1 hb2 hb hO K D H hrd hx
    go_enter Tryz.func84, Tryz.ntmps84
    go_wp2_with fail
    go_still_tail 12, (by kernel_rfl)
    go_wp2_with (go_at_call 23; refine hw.out.mono ?_)
    rintro e w1 ⟨rfl, S1⟩
    have S2 := (S0.drew.swap.call S1).swap
    clear S S0 S1 c0 e0 e1 e2
    unfold cacheB cacheH at S2
    go_wp2_with (refine wpl_set rfl _ _ _ rfl _ _ rfl _ rfl sz_frame S2 1 _ _ rfl ?_ rfl ?_; (rw [hlen.out]; omega))
    intro w2 S3
    replace S3 : St w _ w2 (_ :: (z.f, C 150 ((k.frames.set f { x with dirty := false }).flatMap encF)) :: _) := hset.out ▸ S3
    go_wp2
    go_end0
    refine ⟨rfl, ?_⟩
    unfold cacheB cacheH
    rw [hfb.out, List.length_set]
    exact S3.cast (by simp)
end
end Go.Proofs.YtnobknmhffaoeaaGreatDoor
namespace Go.Proofs.YtnobknmhffaoeaaGreatDoor
open Go.RowKit
theorem mid_perm {α : Type} (A M B : List α) : (A ++ (M ++ B)).Perm (M ++ (A ++ B)) := by
  rw [← List.append_assoc, ← List.append_assoc]; exact List.perm_append_comm.append_right B
theorem aDel_mem {k : Nat} {M : List (Nat × Nat)} {p : Nat × Nat} (h : p ∈ aDel M k) : p ∈ M := by
  unfold aDel at h
  split at h
  · exact List.mem_of_mem_eraseIdx h
  · exact h
theorem aPut_mem {k v : Nat} {M : List (Nat × Nat)} {p : Nat × Nat} (h : p ∈ aPut M k v) : p ∈ M ∨ p = (k, v) := by
  unfold aPut at h
  split at h
  · exact List.mem_or_eq_of_mem_set h
  · rcases List.mem_append.1 h with h | h
    · exact .inl h
    · exact .inr (by simpa using h)
theorem info_int : (Tryz.prog.info? 3).map (fun i => (i.zero, i.size, i.bytes)) = some (some (.int .i64 0), 1, 8) := by kernel_rfl
theorem sz_ints : ∀ w, (sizeOf 73).run Tryz.prog w = .ok 1 w := Tryz.sizeOf73
abbrev ccO (z : CAt) (N : Nat) (ev : Value) : Obj := C 131 [.pointer (some ⟨z.dv.g, 0, none⟩), .slice (some ⟨z.f, 0, none⟩) N N, .map (some z.m), ev, .pointer (some ⟨z.r, 0, none⟩)]
abbrev cfO (fr : List Fr) : Obj := C 150 (fr.flatMap encF)
theorem Own.one {α : Type} {E : Lay α} {e : Nat} {v : Value} {xs : List α} {L : Blocks} (O : Own E e v xs L) : v.oneCell' = true := by
  rcases O with ⟨h, _, _⟩ | ⟨b, cap, sp, h, _⟩ <;> rw [h] <;> rfl
/-- What leave does. -/
def leaveK (k : Cm) (f : Nat) (x : Fr) : Cm := ⟨k.frames.set f Fr.zero, aDel k.at_ x.block, k.empty ++ [f], k.row.erase f⟩
section
variable {z : CAt} {n : Nat} {h : CH} {k : Cm}
set_option maxRecDepth 100000 in
set_option maxHeartbeats 2000000 in
theorem cache_leave (K : CHOk n h k) (f : Nat) (x : Fr) (hx : k.frames[f]? = some x) (hE : k.empty.length ≤ 5000) (w : World) (H : HC w (cacheB z h k)) :
    Calls Tryz.prog 136 #[.pointer (some ⟨z.c, 0, none⟩), .int .i64 f] w fun e w' => e = .returned (.tuple #[]) ∧
      ∃ h', CHOk n h' (leaveK k f x) ∧ St w (FP w (cacheB z h k)) w' (cacheB z h' (leaveK k f x)) := by
  have hn := K.len
  subst hn
  have S := H.st
  generalize FP w (cacheB z h k) = F at *
  have hfn : f < k.frames.length := (List.getElem?_eq_some_iff.1 hx).1
  have hput := Lib.hid (fm_put encF_len k.frames f Fr.zero hfn)
  have hlen := Lib.hid (fm_length encF_len k.frames)
  have hn2 := K.n2
  unfold cacheB cacheH at S
  have c1 := S.cell 0 rfl 1 rfl
  have c2 := S.cell 0 rfl 2 rfl
  have e0 := S.cell 1 rfl (f * 4) ((fm_get0 encF_len k.frames f x hx (by omega)).trans rfl)
  go_enter Tryz.func136, Tryz.ntmps136
  go_wp2_with fail
  go_still_tail 12, (by kernel_rfl)
  go_wp2_with (refine wpl_delete S.drew 2 rfl K.map rfl _ 53 3 _ _ rfl Tryz.underlying129 Tryz.underlying53 x.block rfl rfl ?_)
  intro ob w1 hM S1
  clear S c1 c2 e0
  replace S1 : St w F w1 ([(z.c, ccO z k.frames.length h.ev), (z.f, cfO k.frames), (z.m, ob)] ++ (chainB z.r z.rb h.links k.row.length ++ (h.EL ++ frB k.frames))) := S1.cast (by simp)
  have c1 := S1.cell 0 rfl 1 rfl
  have c4 := S1.cell 0 rfl 4 rfl
  have S2 := S1.perm (mid_perm [_, _, _] _ _)
  have hcut := Lib.hid (chain_cut K.ring z.r z.rb f w1 S2.hc.left hn2 (by omega))
  go_wp2_with (go_at_call 137; refine hcut.out.mono ?_)
  rintro e w2 ⟨⟨q, rfl⟩, l', R', S3⟩
  have S4 := (S2.call S3).perm (mid_perm [_, _, _] _ _).symm
  clear S1 S2 S3 c1 c4 hcut
  have c1 := S4.cell 0 rfl 1 rfl
  go_wp2_with (refine wpl_store rfl _ _ _ rfl _ _ rfl _ rfl Tryz.sizeOf150 S4 1 _ _ rfl ?_ ?_ ?_; (rw [hlen.out]; show _ + 4 ≤ _; omega); (simp [Act.eval, Value.cells, Value.oneCell']))
  intro w3 S5 _
  replace S5 : St w F w3 ([(z.c, ccO z k.frames.length h.ev), (z.f, cfO (k.frames.set f Fr.zero)), (z.m, ob)] ++ (chainB z.r z.rb l' (k.row.erase f).length ++ (h.EL ++ frB k.frames))) := S5.cast (by unfold cfO; rw [← hput.out]; first | rfl | simp [encF, Fr.zero])
  clear S4 c1
  have c3 := S5.cell 0 rfl 3 rfl
  have S6 : St w F w3 (h.EL ++ ([(z.c, ccO z k.frames.length h.ev), (z.f, cfO (k.frames.set f Fr.zero)), (z.m, ob)] ++ (chainB z.r z.rb l' (k.row.erase f).length ++ frB k.frames))) :=
    (S5.perm (((mid_perm _ _ _).append_left _).trans (mid_perm _ _ _)))
  go_wp2_with (at_builtin; refine wpl_append1 (A := h.EL) (E := eNat .i64) (x := f) (S6.alloc _) K.emp rfl _ _ 73 rfl _ 8 Tryz.underlying73 info_int rfl rfl rfl ?_ ?_; (exact ⟨by omega, by omega⟩))
  intro v' w4 L' O' S7
  have S8 := S7.perm (mid_perm L' [_, _, _] _)
  have hv1 := O'.one
  go_wp2_with (refine wpl_set rfl _ _ _ rfl _ _ rfl _ rfl sz_ints S8 0 _ _ rfl ?_ hv1 ?_; (simp))
  intro w5 S9
  go_wp2
  go_end0
  refine ⟨rfl, ⟨ob, v', L', l'⟩, ⟨by simp [leaveK], K.n1, K.n2, hM, O', R', ?_, ?_⟩, ?_⟩
  · intro y hy
    rcases List.mem_or_eq_of_mem_set hy with hy | hy
    · exact K.fr y hy
    · rw [hy]; exact Own.nil _ _
  · intro p hp
    exact K.at_ p (aDel_mem hp)
  · have T : St w F w5 (x.L ++ ([(z.c, ccO z k.frames.length v'), (z.f, cfO (k.frames.set f Fr.zero)), (z.m, ob)] ++ (L' ++ (chainB z.r z.rb l' (k.row.erase f).length ++ frB (k.frames.set f { x with L := [] }))))) := by
      refine (S9.cast ?_).perm (((((frB_out hx).append_left _).trans (mid_perm _ _ _)).append_left _ |>.trans (mid_perm _ _ _)).append_left _ |>.trans (mid_perm _ _ _))
      simp [chainB]
    have T := T.right
    unfold cacheB cacheH leaveK
    dsimp only
    rw [List.length_set, show frB (k.frames.set f Fr.zero) = frB (k.frames.set f { x with L := [] }) by
      have := frB_same (fr := k.frames.set f { x with L := [] }) (f := f) (x := { x with L := [] }) (y := Fr.zero) (by rw [List.getElem?_set_self hfn]) rfl
      rw [List.set_set] at this; exact this]
    refine (T.perm (((mid_perm _ _ _)).append_left _)).cast ?_
    simp [chainB]
end
end Go.Proofs.YtnobknmhffaoeaaGreatDoor
namespace Go.Proofs.YtnobknmhffaoeaaGreatDoor
open Go.RowKit
theorem Own.last {α : Type} {E : Lay α} {e b n cap : Nat} {xs : List α} {x : α} {spare : List Value} (hl : n = xs.length) (h1 : n + 1 ≤ cap) (h2 : cap ≤ maxLen) (h3 : (E.all (xs ++ [x]) ++ spare).length = cap * E.sz) :
    Own E e (.slice (some ⟨b, 0, none⟩) n cap) xs [(b, C e (E.all (xs ++ [x]) ++ spare))] := by
  subst hl
  refine .inr ⟨b, cap, E.enc x ++ spare, rfl, ?_, by omega, h2, ?_⟩
  · rw [E.all_append]; simp [Lay.all]
  · rw [← h3, E.all_append]; simp [Lay.all]
theorem cacheB_eq (z : CAt) (h : CH) (k : Cm) : cacheB z h k = [(z.c, ccO z k.frames.length h.ev), (z.f, cfO k.frames), (z.m, h.mo)] ++ (chainB z.r z.rb h.links k.row.length ++ (h.EL ++ frB k.frames)) := by
  unfold cacheB cacheH; simp [chainB]
theorem HC.chain {z : CAt} {h : CH} {k : Cm} {w : World} (H : HC w (cacheB z h k)) : HC w (chainB z.r z.rb h.links k.row.length) :=
  (H.perm ((List.Perm.of_eq (cacheB_eq z h k)).trans (mid_perm _ _ _))).left
section
variable {z : CAt} {n : Nat} {h : CH} {k : Cm}
set_option maxRecDepth 100000 in
set_option maxHeartbeats 2000000 in
theorem cache_room_free (K : CHOk n h k) (e0 : List Nat) (f : Nat) (he : k.empty = e0 ++ [f]) (hE : e0.length ≤ 5000) (w : World) (H : HC w (cacheB z h k)) :
    Calls Tryz.prog 116 #[.pointer (some ⟨z.c, 0, none⟩)] w fun e w' => e = .returned (.tuple #[.int .i64 f, .bool true]) ∧
      ∃ h', CHOk n h' { k with empty := e0 } ∧ St w (FP w (cacheB z h k)) w' (cacheB z h' { k with empty := e0 }) := by
  have S := H.st
  generalize FP w (cacheB z h k) = F at *
  obtain ⟨b, cap, spare, hv, hL, h1, h2, h3⟩ := K.emp.form (by rw [he]; simp)
  rw [he] at hv hL h1 h3
  have hlen : (e0 ++ [f]).length = e0.length + 1 := by simp
  rw [hlen] at hv h1
  have hO := Lib.hid (Own.last (e := 3) (b := b) rfl h1 h2 h3)
  unfold cacheB cacheH at S
  rw [hv, hL] at S
  replace S : St w F w ([(b, C 3 ((eNat .i64).all (e0 ++ [f]) ++ spare))] ++ ([(z.c, ccO z k.frames.length (.slice (some ⟨b, 0, none⟩) (e0.length + 1) cap)), (z.f, cfO k.frames), (z.m, h.mo)] ++ (chainB z.r z.rb h.links k.row.length ++ frB k.frames))) :=
    (S.cast (L' := [(z.c, ccO z k.frames.length (.slice (some ⟨b, 0, none⟩) (e0.length + 1) cap)), (z.f, cfO k.frames), (z.m, h.mo)] ++ (chainB z.r z.rb h.links k.row.length ++ ([(b, C 3 ((eNat .i64).all (e0 ++ [f]) ++ spare))] ++ frB k.frames))) (by simp)).perm (((mid_perm _ _ _).append_left _).trans (mid_perm _ _ _))
  have c3 := S.cell 1 rfl 3 rfl
  have d0 : w.cell? ⟨b, e0.length, none⟩ = some (.int .i64 f) := S.cell 0 rfl e0.length (by
    have := (eNat .i64).at_ (xs := e0 ++ [f]) (i := e0.length) (j := 0) (x := f) (u := .int .i64 f) (by simp) rfl
    rw [List.getElem?_append_left (List.getElem?_eq_some_iff.1 (by simpa [eNat] using this)).1]
    simpa [eNat] using this)
  have k1 : IntKind.i64.wrap (((e0.length + 1 : Nat) : Int) - 1) = ((e0.length : Nat) : Int) := by rw [IntWalk.i64_in _ (by omega)]; omega
  have k2 : (((e0.length + 1 : Nat) : Int) == 0) = false := by rw [beq_eq_false_iff_ne]; omega
  have hc0 : e0.length < cap := by omega
  have hc1 : e0.length ≤ cap := by omega
  have hc2 : ¬ cap = 0 := by omega
  clear h3 hL hv H he hlen h1 h2
  go_enter Tryz.func116, Tryz.ntmps116
  go_wp2_with (refine wpl_set rfl _ _ _ rfl _ _ rfl _ rfl sz_ints S 1 _ _ rfl ?_ ?_ ?_; (simp); rfl)
  intro w5 S9
  go_wp2
  go_ret2
  refine ⟨rfl, ⟨h.mo, .slice (some ⟨b, 0, none⟩) e0.length cap, [(b, C 3 ((eNat .i64).all (e0 ++ [f]) ++ spare))], h.links⟩, ⟨K.len, K.n1, K.n2, K.map, hO.out, K.ring, K.fr, K.at_⟩, ?_⟩
  refine ((S9.cast (L' := [(b, C 3 ((eNat .i64).all (e0 ++ [f]) ++ spare))] ++ ([(z.c, ccO z k.frames.length (.slice (some ⟨b, 0, none⟩) e0.length cap)), (z.f, cfO k.frames), (z.m, h.mo)] ++ (chainB z.r z.rb h.links k.row.length ++ frB k.frames))) ?_).perm ((mid_perm _ _ _).trans ((mid_perm _ _ _).append_left _))).cast ?_
  · simp [chainB]
  · unfold cacheB cacheH
    simp [chainB]
set_option maxRecDepth 100000 in
set_option maxHeartbeats 2000000 in
theorem cache_room_no (K : CHOk n h k) (he : k.empty = []) (hr : lastOf k.row = .tuple #[.int .i64 0, .bool false]) (w : World) (H : HC w (cacheB z h k)) :
    Calls Tryz.prog 116 #[.pointer (some ⟨z.c, 0, none⟩)] w fun e w' => e = .returned (.tuple #[.int .i64 0, .bool false]) ∧ ∃ q, w' = w.drewN q := by
  have S := H.st
  unfold cacheB cacheH at S
  have c3 := S.cell 0 rfl 3 rfl
  have c4 := S.cell 0 rfl 4 rfl
  obtain ⟨A, cap, hv, _, _⟩ := K.emp.slice
  rw [he] at hv
  rw [hv] at c3
  have Hc : HC w (chainB z.r z.rb h.links k.row.length) := H.chain
  have hla := Lib.hid (chain_last K.ring z.r z.rb w Hc K.n2)
  rw [hr] at hla
  clear S H K Hc he hr hv
  go_enter Tryz.func116, Tryz.ntmps116
  go_wp2_with (go_at_call 135; refine hla.out.mono ?_; rintro e w' ⟨rfl, q, rfl⟩)
  go_ret2
  exact ⟨rfl, q, rfl⟩
/-- What room does where no frame is empty. -/
def outK (k : Cm) (f : Nat) (x : Fr) : Cm := ⟨k.frames.set f Fr.zero, aDel k.at_ x.block, [], k.row.erase f⟩
set_option maxRecDepth 100000 in
set_option maxHeartbeats 4000000 in
theorem cache_room (K : CHOk n h k) {d : Dv} (D : d.Ok) (he : k.empty = []) (f : Nat) (x : Fr) (hr : lastOf k.row = .tuple #[.int .i64 f, .bool true]) (hx : k.frames[f]? = some x)
    (hb : x.dirty = true → x.block < d.blocks ∧ x.x.length = d.bytes) (w : World) (H : HC w (cacheB z h k ++ devB z.dv d)) :
    Calls Tryz.prog 116 #[.pointer (some ⟨z.c, 0, none⟩)] w fun e w' => e = .returned (.tuple #[.int .i64 f, .bool true]) ∧
      ∃ h', CHOk n h' (outK k f x) ∧ St w (FP w (cacheB z h k ++ devB z.dv d)) w' (cacheB z h' (outK k f x) ++ devB z.dv (backD d x)) := by
  have hn := K.len
  subst hn
  have S := H.st
  generalize FP w (cacheB z h k ++ devB z.dv d) = F at *
  have hfn : f < k.frames.length := (List.getElem?_eq_some_iff.1 hx).1
  have hn2 := K.n2
  have S' := S
  unfold cacheB cacheH at S'
  have c1 := S'.cell 0 rfl 1 rfl
  have c3 := S'.cell 0 rfl 3 rfl
  have c4 := S'.cell 0 rfl 4 rfl
  obtain ⟨A, cap, hv, _, _⟩ := K.emp.slice
  rw [he] at hv
  rw [hv] at c3
  have Hc : HC w (chainB z.r z.rb h.links k.row.length) := H.left.chain
  have hla := Lib.hid (chain_last K.ring z.r z.rb w Hc K.n2)
  rw [hr] at hla
  have hbk := Lib.hid (fun q => cache_back D K f x hx hb (w.drewN q) (H.drewN q))
  have K1 : CHOk k.frames.length h { k with frames := k.frames.set f { x with dirty := false } } :=
    ⟨by simp, K.n1, K.n2, K.map, K.emp, K.ring, fun y hy => by
      rcases List.mem_or_eq_of_mem_set hy with hy | hy
      · exact K.fr y hy
      · rw [hy]; exact K.fr x (List.mem_of_getElem? hx), K.at_⟩
  have hlv := Lib.hid (fun w (H' : HC w (cacheB z h { k with frames := k.frames.set f { x with dirty := false } })) => cache_leave K1 f { x with dirty := false } (by simp [hfn]) (by show k.empty.length ≤ _; rw [he]; simp) w H')
  clear S' Hc hr hv hb
  go_enter Tryz.func116, Tryz.ntmps116
  go_wp2_with (first | (go_at_call 135; refine hla.out.mono ?_; rintro e w' ⟨rfl, q, rfl⟩) | (go_at_call 84; refine (hbk.out _).mono ?_))
  rintro e w2 ⟨rfl, S2⟩
  have S3 := (S.drewN q).seq S2
  clear S S2 c1 c3 c4
  go_wp2_with (go_at_call 136; refine (hlv.out _ S3.hc.left).mono ?_)
  rintro e w3 ⟨rfl, h', K', S4⟩
  have S5 := S3.call S4
  clear S3 S4
  obtain ⟨b, cap', spare, hv, hL, h1, h2, h3⟩ := K'.emp.form (by simp [leaveK])
  simp only [leaveK, he, List.nil_append] at hv hL h1 h3
  have hO := Lib.hid (Own.last (e := 3) (b := b) (n := 0) (xs := []) rfl h1 h2 h3)
  rw [cacheB_eq, hv, hL] at S5
  simp only [leaveK, List.set_set, List.length_set, List.length_singleton] at S5
  replace S5 : St w F w3 ([(b, C 3 ((eNat .i64).all [f] ++ spare))] ++ ([(z.c, ccO z k.frames.length (.slice (some ⟨b, 0, none⟩) 1 cap')), (z.f, cfO (k.frames.set f Fr.zero)), (z.m, h'.mo)] ++ (chainB z.r z.rb h'.links (k.row.erase f).length ++ (frB (k.frames.set f Fr.zero) ++ devB z.dv (backD d x))))) :=
    (S5.cast (L' := [(z.c, ccO z k.frames.length (.slice (some ⟨b, 0, none⟩) 1 cap')), (z.f, cfO (k.frames.set f Fr.zero)), (z.m, h'.mo)] ++ (chainB z.r z.rb h'.links (k.row.erase f).length ++ ([(b, C 3 ((eNat .i64).all [f] ++ spare))] ++ (frB (k.frames.set f Fr.zero) ++ devB z.dv (backD d x))))) (by simp)).perm (((mid_perm _ _ _).append_left _).trans (mid_perm _ _ _))
  have c3 := S5.cell 1 rfl 3 rfl
  have d0 : w3.cell? ⟨b, 0, none⟩ = some (.int .i64 f) := S5.cell 0 rfl 0 rfl
  have hc2 : ¬ cap' = 0 := by simp at h1; omega
  go_wp2_with (refine wpl_set rfl _ _ _ rfl _ _ rfl _ rfl sz_ints S5 1 _ _ rfl ?_ ?_ ?_; (simp); rfl)
  intro w5 S9
  go_wp2
  go_ret2
  refine ⟨rfl, ⟨h'.mo, .slice (some ⟨b, 0, none⟩) 0 cap', [(b, C 3 ((eNat .i64).all [f] ++ spare))], h'.links⟩, ⟨by simp [outK], K.n1, K.n2, K'.map, hO.out, K'.ring, fun y hy => K'.fr y (by simpa [leaveK, outK] using hy), fun p hp => K'.at_ p (by simpa [leaveK, outK] using hp)⟩, ?_⟩
  refine ((S9.cast (L' := [(b, C 3 ((eNat .i64).all [f] ++ spare))] ++ ([(z.c, ccO z k.frames.length (.slice (some ⟨b, 0, none⟩) 0 cap')), (z.f, cfO (k.frames.set f Fr.zero)), (z.m, h'.mo)] ++ (chainB z.r z.rb h'.links (k.row.erase f).length ++ (frB (k.frames.set f Fr.zero) ++ devB z.dv (backD d x))))) ?_).perm ((mid_perm _ _ _).trans ((mid_perm _ _ _).append_left _))).cast ?_
  · simp [chainB]
  · rw [cacheB_eq]
    simp [chainB, outK]
end
end Go.Proofs.YtnobknmhffaoeaaGreatDoor
namespace Go.Proofs.YtnobknmhffaoeaaGreatDoor
open Go.RowKit
def putK (k : Cm) (f : Nat) (x : Fr) : Cm := ⟨k.frames.set f { x with pins := 1 }, aPut k.at_ x.block f, k.empty, k.row.erase f⟩
def Fr.val (x : Fr) : Value := .agg #[.int .u32 x.block, x.v, .bool x.dirty, .int .i64 x.pins]
section
variable {z : CAt} {n : Nat} {h : CH} {k : Cm}
set_option maxRecDepth 100000 in
set_option maxHeartbeats 4000000 in
theorem cache_put (K : CHOk n h k) (f : Nat) (hf : f < n) (x : Fr) (hO : Own eByte 5 x.v x.x x.L) (w : World) (H : HC w (x.L ++ cacheB z h k)) :
    Calls Tryz.prog 117 #[.pointer (some ⟨z.c, 0, none⟩), .int .i64 f, .agg #[.int .u32 x.block, x.v, .bool x.dirty, .int .i64 x.pins]] w fun e w' => e = .returned (.tuple #[]) ∧
      ∃ h', CHOk n h' (putK k f x) ∧ St w (FP w (x.L ++ cacheB z h k)) w' (cacheB z h' (putK k f x)) := by
  have hn := K.len
  subst hn
  have S := H.st
  generalize FP w (x.L ++ cacheB z h k) = F at *
  have hn2 := K.n2
  have hput := Lib.hid (fm_put encF_len k.frames f { x with pins := 1 } hf)
  have hlen := Lib.hid (fm_length encF_len k.frames)
  have hv1 := Lib.hid hO.one
  rw [cacheB_eq] at S
  replace S := S.perm (mid_perm _ _ _)
  obtain ⟨y, hy⟩ : ∃ y, k.frames[f]? = some y := ⟨_, List.getElem?_eq_getElem hf⟩
  obtain ⟨block, v, xx, L, dirty, pins⟩ := x
  dsimp only at *
  have hone : Hid (∀ u ∈ [Value.int .u32 block, v, .bool dirty, .int .i64 1], u.oneCell' = true) := by
    intro u hu
    simp at hu
    rcases hu with rfl | rfl | rfl | rfl
    · rfl
    · exact hv1.out
    · rfl
    · rfl
  go_enter Tryz.func117, Tryz.ntmps117
  go_wp2_with (refine wpl_box S rfl _ _ rfl _ rfl ?_)
  intro g w1 hg S1
  replace S1 : St w F w1 ((g, C 150 [.int .u32 block, v, .bool dirty, .int .i64 pins]) :: _) := S1
  go_wp2_with (refine wpl_set rfl _ _ _ rfl _ _ rfl _ rfl Tryz.sizeOf3 S1 0 _ _ rfl ?_ ?_ ?_; (simp); rfl)
  intro w2 S2
  replace S2 : St w F w2 ((g, C 150 [.int .u32 block, v, .bool dirty, .int .i64 1]) :: ([(z.c, ccO z k.frames.length h.ev), (z.f, cfO k.frames), (z.m, h.mo)] ++ (L ++ (chainB z.r z.rb h.links k.row.length ++ (h.EL ++ frB k.frames))))) := S2
  clear S S1
  have g0 := S2.cell 0 rfl 0 rfl
  have g1 := S2.cell 0 rfl 1 rfl
  have g2 := S2.cell 0 rfl 2 rfl
  have g3 := S2.cell 0 rfl 3 rfl
  have c1 := S2.cell 1 rfl 1 rfl
  go_wp2_with fail
  go_still_tail 7, (by kernel_rfl)
  go_wp2_with (refine wpl_store rfl _ _ _ rfl _ _ rfl _ rfl Tryz.sizeOf150 S2.drew 2 _ _ rfl ?_ ?_ ?_; (rw [hlen.out]; show _ + 4 ≤ _; omega); (exact hone.out))
  intro w3 S3 _
  replace S3 : St w F w3 ((g, C 150 [.int .u32 block, v, .bool dirty, .int .i64 1]) :: ([(z.c, ccO z k.frames.length h.ev), (z.f, cfO (k.frames.set f ⟨block, v, xx, L, dirty, 1⟩)), (z.m, h.mo)] ++ (L ++ (chainB z.r z.rb h.links k.row.length ++ (h.EL ++ frB k.frames))))) :=
    S3.cast (by unfold cfO; rw [← hput.out]; first | rfl | simp [encF])
  clear S2 g0 g1 g2 g3 c1
  have g0 := S3.cell 0 rfl 0 rfl
  have c2 := S3.cell 1 rfl 2 rfl
  go_wp2_with fail
  go_still_tail 7, (by kernel_rfl)
  go_wp2_with (refine wpl_mapUpdate S3.drew 3 rfl K.map rfl _ 53 3 _ _ _ rfl Tryz.underlying129 Tryz.underlying53 block f rfl rfl rfl ?_)
  intro ob w4 hM S4
  clear S3 g0 c2
  replace S4 : St w F w4 (([(z.c, ccO z k.frames.length h.ev), (z.f, cfO (k.frames.set f ⟨block, v, xx, L, dirty, 1⟩)), (z.m, ob)] ++ L) ++ (chainB z.r z.rb h.links k.row.length ++ (h.EL ++ frB k.frames))) :=
    (S4.right (A := [_])).cast (by simp)
  have c4 := S4.cell 0 rfl 4 rfl
  have S5 := S4.perm (mid_perm _ _ _)
  have hcut := Lib.hid (chain_cut K.ring z.r z.rb f w4 S5.hc.left hn2 (by omega))
  go_wp2_with (go_at_call 137; refine hcut.out.mono ?_)
  rintro e w5 ⟨⟨q, rfl⟩, l', R', S6⟩
  have S7 := S5.call S6
  clear S4 S5 S6 c4 hcut
  go_wp2
  go_end0
  refine ⟨rfl, ⟨ob, h.ev, h.EL, l'⟩, ⟨by simp [putK], K.n1, K.n2, hM, K.emp, R', ?_, ?_⟩, ?_⟩
  · intro u hu
    rcases List.mem_or_eq_of_mem_set hu with hu | hu
    · exact K.fr u hu
    · rw [hu]; exact hO
  · intro p hp
    rcases aPut_mem hp with hp | hp
    · exact K.at_ p hp
    · rw [hp]; exact hf
  · -- chain ++ ((heads ++ L) ++ (EL ++ frB frames))
    have e1 : frB (k.frames.set f { y with L := [] }) = frB (k.frames.set f ⟨block, v, xx, [], dirty, 1⟩) := by
      have := frB_same (fr := k.frames.set f { y with L := [] }) (f := f) (x := { y with L := [] }) (y := ⟨block, v, xx, [], dirty, 1⟩) (by rw [List.getElem?_set_self hf]) rfl
      rw [List.set_set] at this; exact this.symm
    have p1 : (frB k.frames).Perm (y.L ++ frB (k.frames.set f ⟨block, v, xx, [], dirty, 1⟩)) := e1 ▸ frB_out hy
    have p2 : (frB (k.frames.set f ⟨block, v, xx, L, dirty, 1⟩)).Perm (L ++ frB (k.frames.set f ⟨block, v, xx, [], dirty, 1⟩)) := by
      have := frB_out (fr := k.frames.set f ⟨block, v, xx, L, dirty, 1⟩) (f := f) (x := ⟨block, v, xx, L, dirty, 1⟩) (by rw [List.getElem?_set_self hf])
      rwa [List.set_set] at this
    generalize frB (k.frames.set f ⟨block, v, xx, [], dirty, 1⟩) = FR at *
    have T := (S7.perm ((((p1.append_left h.EL).trans (mid_perm _ _ _)).append_left _ |>.trans (mid_perm _ _ _)).append_left _ |>.trans (mid_perm _ _ _))).right
    rw [cacheB_eq]
    unfold putK
    dsimp only
    rw [List.length_set]
    refine T.perm ?_
    refine List.Perm.trans ?_ (((p2.symm.append_left h.EL).append_left _).append_left _)
    rw [List.append_assoc]
    exact (mid_perm _ _ _).trans (((mid_perm _ _ _).append_left _).append_left _)
end
end Go.Proofs.YtnobknmhffaoeaaGreatDoor
namespace Go.Proofs.YtnobknmhffaoeaaGreatDoor
open Go.RowKit
def setF (k : Cm) (f : Nat) (x : Fr) : Cm := { k with frames := k.frames.set f x }
theorem run_lookup_map {P : Program} {w : World} {r : Nat} {ob : Obj} (hb : w.heap[r]? = some ob) {M : List (Nat × Nat)} (hM : MapIs ob M) (T K V : Nat)
    (hT : P.underlying T = some (.map K V)) (hK : P.underlying K = some (.int .u32)) (hz : ∀ w, (zeroValue V).run P w = .ok (.int .i64 0) w) (k : Nat) :
    (Instr.lookup T (.map (some r)) (.int .u32 k) false).run P w = .ok (.int .i64 ((aGet M k).getD 0 : Nat)) w := by
  obtain ⟨es, clock, rfl, h1, h2, h3⟩ := hM
  unfold Instr.lookup
  simp only [Sem.run_bind, run_underlying hT, Result.andThen_ok, run_getObj_map hb, Sem.run_pure, run_checkKey_u32 K hK, run_findKey_u32 w K es M k hK h1]
  unfold aGet
  cases aFind k M 0 with
  | none => simp [hz]
  | some p => simp
theorem still_lookup {P : Program} {ops : Array Oper} {w : World} {Q : Act → Prop} {a : Act} {o : Oper} {rest : List Oper} (hgd : o.guard = none) (T : Nat) (m x : Operand) (ho : o.op = .lookup T m x false) (u k v : Value) (hm : a.eval m = u) (hx : a.eval x = k)
    (hr : (Instr.lookup T u k false).run P w = .ok v w) (h : wpStill P ops w Q rest (a.put o.dst v)) : wpStill P ops w Q (o :: rest) a := by
  refine wpStill_step fun K hK => ?_
  rw [if_pos (by simp [Region.wanted, hgd])]
  unfold Oper.still
  have e : (execOp a.eval o).run P w = .ok (.value v) w := by simp [execOp, ho, hm, hx, hr]
  rw [e, Oper.stillUpon_value]; exact hK _ h
section
variable {z : CAt} {n : Nat} {h : CH} {k : Cm}
theorem sz_bytes : ∀ w, (sizeOf 29).run Tryz.prog w = .ok 1 w := Tryz.sizeOf29
/-- The cache's blocks where a frame has turned. -/
theorem cache_frame {f : Nat} {x y : Fr} (hx : k.frames[f]? = some x) {w0 w : World} {F : Nat → Prop} {R L : Blocks} (hL : y.L = L)
    (S : St w0 F w (L ++ ([(z.c, ccO z k.frames.length h.ev), (z.f, cfO (k.frames.set f y)), (z.m, h.mo)] ++ (chainB z.r z.rb h.links k.row.length ++ (h.EL ++ (frB k.frames ++ R)))))) :
    St w0 F w (cacheB z h (setF k f y) ++ R) := by
  have hf : f < k.frames.length := (List.getElem?_eq_some_iff.1 hx).1
  have e1 : frB (k.frames.set f { x with L := [] }) = frB (k.frames.set f { y with L := [] }) := by
    have := frB_same (fr := k.frames.set f { x with L := [] }) (f := f) (x := { x with L := [] }) (y := { y with L := [] }) (by rw [List.getElem?_set_self hf]) rfl
    rw [List.set_set] at this; exact this.symm
  have p1 : (frB k.frames).Perm (x.L ++ frB (k.frames.set f { y with L := [] })) := e1 ▸ frB_out hx
  have p2 : (frB (k.frames.set f y)).Perm (L ++ frB (k.frames.set f { y with L := [] })) := by
    have := frB_out (fr := k.frames.set f y) (f := f) (x := y) (by rw [List.getElem?_set_self hf])
    rw [List.set_set, hL] at this; exact this
  generalize frB (k.frames.set f { y with L := [] }) = FR at *
  rw [cacheB_eq]
  unfold setF
  dsimp only
  rw [List.length_set]
  -- to the front: x.L, then dropped
  have q1 : (L ++ ([(z.c, ccO z k.frames.length h.ev), (z.f, cfO (k.frames.set f y)), (z.m, h.mo)] ++ (chainB z.r z.rb h.links k.row.length ++ (h.EL ++ (frB k.frames ++ R))))).Perm
      (x.L ++ (L ++ ([(z.c, ccO z k.frames.length h.ev), (z.f, cfO (k.frames.set f y)), (z.m, h.mo)] ++ (chainB z.r z.rb h.links k.row.length ++ (h.EL ++ (FR ++ R)))))) := by
    have a1 : (frB k.frames ++ R).Perm (x.L ++ (FR ++ R)) := (p1.append_right R).trans (List.Perm.of_eq (by simp))
    have a2 := (a1.append_left h.EL).trans (mid_perm _ _ _)
    have a3 := (a2.append_left (chainB z.r z.rb h.links k.row.length)).trans (mid_perm _ _ _)
    have a4 := (a3.append_left [(z.c, ccO z k.frames.length h.ev), (z.f, cfO (k.frames.set f y)), (z.m, h.mo)]).trans (mid_perm _ _ _)
    exact (a4.append_left L).trans (mid_perm _ _ _)
  refine (S.perm q1).right.perm ?_
  have b1 : (L ++ (FR ++ R)).Perm (frB (k.frames.set f y) ++ R) := (List.Perm.of_eq (by simp)).trans (p2.symm.append_right R)
  have b2 := (mid_perm L [(z.c, ccO z k.frames.length h.ev), (z.f, cfO (k.frames.set f y)), (z.m, h.mo)] (chainB z.r z.rb h.links k.row.length ++ (h.EL ++ (FR ++ R))))
  refine b2.trans ?_
  have b3 := (mid_perm L (chainB z.r z.rb h.links k.row.length) (h.EL ++ (FR ++ R))).trans ((((mid_perm L h.EL (FR ++ R)).trans (b1.append_left _))).append_left _)
  exact (b3.append_left _).trans (List.Perm.of_eq (by simp))
theorem CHOk.setF (K : CHOk n h k) (f : Nat) (y : Fr) (hO : Own eByte 5 y.v y.x y.L) : CHOk n h (setF k f y) :=
  ⟨by simp [Go.Proofs.YtnobknmhffaoeaaGreatDoor.setF, K.len], K.n1, K.n2, K.map, K.emp, K.ring, fun u hu => by
    rcases List.mem_or_eq_of_mem_set hu with hu | hu
    · exact K.fr u hu
    · rw [hu]; exact hO, K.at_⟩
set_option maxRecDepth 100000 in
set_option maxHeartbeats 4000000 in
theorem cache_write (K : CHOk n h k) {d : Dv} (D : d.Ok) (i f : Nat) (hi : aGet k.at_ i = some f) (x : Fr) (hx : k.frames[f]? = some x) (hp1 : 1 ≤ x.pins) (hp : x.pins ≤ 1000000000)
    (v : Value) (bs : List UInt8) (hbs : bs.length = d.bytes) (w : World) (hr : Rd eByte w v bs) (H : HC w (cacheB z h k ++ devB z.dv d)) :
    Calls Tryz.prog 97 #[.pointer (some ⟨z.c, 0, none⟩), .int .u32 i, v] w fun e w' => e = .returned (.int .i64 0) ∧
      ∃ u L, Own eByte 5 u bs L ∧ St w (FP w (cacheB z h k ++ devB z.dv d)) w' (cacheB z h (setF k f { x with v := u, x := bs, L := L, dirty := true }) ++ devB z.dv d) := by
  have hpin := Lib.hid (cache_pinned K i f hi x hx hp w H.left)
  rw [if_neg (by omega)] at hpin
  have hby := Lib.hid (dev_bytes z.dv d w H.right)
  have hcl := Lib.hid (clone_byte w v bs hr (by rw [hbs]; have := D.y1; omega))
  have S := H.st
  generalize FP w (cacheB z h k ++ devB z.dv d) = F at *
  have hfn : f < k.frames.length := (List.getElem?_eq_some_iff.1 hx).1
  have hx' := Lib.hid hx
  have hlen := Lib.hid (fm_length encF_len k.frames)
  have S' := S
  unfold cacheB cacheH at S'
  have c0 := S'.cell 0 rfl 0 rfl
  obtain ⟨A, c, rfl, _, _, _⟩ := hr
  rw [hbs]
  rw [hbs] at hcl
  clear S' hx hi D K H hp hp1
  go_enter Tryz.func97, Tryz.ntmps97
  go_wp2_with (first | (go_at_call 114; refine hpin.out.mono ?_; rintro e w' ⟨rfl, rfl⟩) | (go_at_call 45; refine hby.out.mono ?_; rintro e w' ⟨rfl, rfl⟩) |
    (go_at_call 59; refine hcl.out.mono ?_))
  rintro e w2 ⟨u, L, rfl, O, S2⟩
  have S3 := S.pure S2
  rw [cacheB_eq] at S3
  replace S3 : St w F w2 ([(z.c, ccO z k.frames.length h.ev), (z.f, cfO k.frames), (z.m, h.mo)] ++ (L ++ (chainB z.r z.rb h.links k.row.length ++ (h.EL ++ (frB k.frames ++ devB z.dv d))))) :=
    (S3.perm ((List.Perm.of_eq (by simp)).trans (mid_perm L [(z.c, ccO z k.frames.length h.ev), (z.f, cfO k.frames), (z.m, h.mo)] (chainB z.r z.rb h.links k.row.length ++ (h.EL ++ (frB k.frames ++ devB z.dv d))))))
  have hu := O.one
  have E1 := Lib.hid (fm_set encF_len k.frames f 1 x { x with v := u } u hx'.out (by omega) rfl)
  have E2 := Lib.hid (fm_set encF_len (k.frames.set f { x with v := u }) f 2 { x with v := u } { x with v := u, x := bs, L := L, dirty := true } (.bool true) (by rw [List.getElem?_set_self hfn]) (by omega) rfl)
  have Z2 := Lib.hid (fm_length encF_len (k.frames.set f { x with v := u }))
  clear S S2 c0
  go_wp2_with (refine wpl_set rfl _ _ _ rfl _ _ rfl _ rfl sz_bytes S3 1 _ _ rfl ?_ hu ?_; (rw [hlen.out]; omega))
  intro w3 S4
  replace S4 : St w F w3 ([(z.c, ccO z k.frames.length h.ev), (z.f, cfO (k.frames.set f { x with v := u })), (z.m, h.mo)] ++ (L ++ (chainB z.r z.rb h.links k.row.length ++ (h.EL ++ (frB k.frames ++ devB z.dv d))))) :=
    S4.cast (by unfold cfO; rw [← E1.out]; first | rfl | simp)
  go_wp2_with (refine wpl_set rfl _ _ _ rfl _ _ rfl _ rfl sz_frame S4 1 _ _ rfl ?_ rfl ?_; (rw [Z2.out, List.length_set]; omega))
  intro w4 S5
  replace S5 : St w F w4 ([(z.c, ccO z k.frames.length h.ev), (z.f, cfO (k.frames.set f { x with v := u, x := bs, L := L, dirty := true })), (z.m, h.mo)] ++ (L ++ (chainB z.r z.rb h.links k.row.length ++ (h.EL ++ (frB k.frames ++ devB z.dv d))))) :=
    S5.cast (by unfold cfO; have := E2.out; rw [List.set_set] at this; rw [← this]; first | rfl | simp)
  go_wp2
  go_ret
  exact ⟨rfl, u, L, O, cache_frame hx'.out rfl (S5.perm (mid_perm _ _ _))⟩
set_option maxRecDepth 100000 in
set_option maxHeartbeats 4000000 in
theorem cache_unpin (K : CHOk n h k) (i f : Nat) (hi : aGet k.at_ i = some f) (x : Fr) (hx : k.frames[f]? = some x) (hp : x.pins = 1) (w : World) (H : HC w (cacheB z h k)) :
    Calls Tryz.prog 99 #[.pointer (some ⟨z.c, 0, none⟩), .int .u32 i] w fun e w' => e = .returned (.int .i64 0) ∧
      ∃ h', CHOk n h' { setF k f { x with pins := 0 } with row := f :: k.row.erase f } ∧ St w (FP w (cacheB z h k)) w' (cacheB z h' { setF k f { x with pins := 0 } with row := f :: k.row.erase f }) := by
  have hn := K.len
  subst hn
  have hpin := Lib.hid (cache_pinned K i f hi x hx (by omega) w H)
  rw [if_neg (by omega)] at hpin
  have S := H.st
  generalize FP w (cacheB z h k) = F at *
  have hfn : f < k.frames.length := (List.getElem?_eq_some_iff.1 hx).1
  have hn2 := K.n2
  have hx' := Lib.hid hx
  have hi' := Lib.hid hi
  have hlen := Lib.hid (fm_length encF_len k.frames)
  have E1 := Lib.hid (fm_set encF_len k.frames f 3 x { x with pins := 0 } (.int .i64 0) hx (by omega) rfl)
  rw [cacheB_eq] at S
  have e3 := S.cell 1 rfl (f * 4 + 3) ((fm_get encF_len k.frames f 3 x hx (by omega)).trans rfl)
  rw [hp] at e3
  have hM := Lib.hid K.map
  clear hx hi hp H
  go_enter Tryz.func99, Tryz.ntmps99
  go_wp2_with (first | (go_at_call 114; refine hpin.out.mono ?_; rintro e w' ⟨rfl, rfl⟩) | (refine wpl_set rfl _ _ _ rfl _ _ rfl _ rfl Tryz.sizeOf3 S 1 _ _ rfl ?_ rfl ?_; (rw [hlen.out]; omega)))
  intro w2 S2
  replace S2 : St w F w2 ([(z.c, ccO z k.frames.length h.ev), (z.f, cfO (k.frames.set f { x with pins := 0 })), (z.m, h.mo)] ++ (chainB z.r z.rb h.links k.row.length ++ (h.EL ++ frB k.frames))) :=
    S2.cast (by unfold cfO; rw [← E1.out]; first | rfl | simp)
  clear S e3
  have e3 := S2.cell 1 rfl (f * 4 + 3) ((fm_get encF_len (k.frames.set f { x with pins := 0 }) f 3 { x with pins := 0 } (by rw [List.getElem?_set_self hfn]) (by omega)).trans rfl)
  have c2 := S2.cell 0 rfl 2 rfl
  have c4 := S2.cell 0 rfl 4 rfl
  have S3 := S2.drew.perm (mid_perm _ _ _)
  have hfr := Lib.hid (chain_front K.ring z.r z.rb f w2.drew S3.hc.left hn2 (by omega))
  have hlk : ∀ dr, (Instr.lookup 129 (.map (some z.m)) (.int .u32 i) false).run Tryz.prog { w2 with drawn := dr } = .ok (.int .i64 f) { w2 with drawn := dr } := by
    intro dr
    have := run_lookup_map (P := Tryz.prog) (w := { w2 with drawn := dr }) (S2.hc.at_ 2 (k := z.m) (o := h.mo) rfl) hM.out 129 53 3 Tryz.underlying129 Tryz.underlying53 int_zero i
    rw [hi'.out] at this; exact this
  go_wp2_with fail
  go_still_tail 10, (by kernel_rfl)
  refine still_lookup rfl _ _ _ rfl _ _ _ rfl rfl (hlk _) ?_
  refine wpStill_nil ?_
  go_wp2_with (first | (go_at_call 118; refine hfr.out.mono ?_))
  rintro e w3 ⟨rfl, l', R', S4⟩
  have S5 := S3.call S4
  go_wp2
  go_ret
  refine ⟨rfl, ⟨h.mo, h.ev, h.EL, l'⟩, ⟨by simp [setF], K.n1, K.n2, K.map, K.emp, R', fun u hu => ?_, K.at_⟩, ?_⟩
  · rcases List.mem_or_eq_of_mem_set hu with hu | hu
    · exact K.fr u hu
    · rw [hu]; exact K.fr x (List.mem_of_getElem? hx'.out)
  · rw [cacheB_eq]
    unfold setF
    dsimp only
    rw [List.length_set, frB_same (y := { x with pins := 0 }) hx'.out rfl]
    exact S5.perm (mid_perm _ _ _).symm
end
end Go.Proofs.YtnobknmhffaoeaaGreatDoor
namespace Go.Proofs.YtnobknmhffaoeaaGreatDoor
open Go.RowKit
/-- The frame that room makes, and what it leaves. -/
def roomO (k : Cm) (d : Dv) : Option (Nat × Cm × Dv) := match k.empty.getLast? with
  | some f => some (f, { k with empty := k.empty.dropLast }, d)
  | none => match k.row.getLast? with
    | none => none
    | some f => some (f, outK k f (k.frames.getD f default), backD d (k.frames.getD f default))
/-- What is dirty is of the device. -/
def DirtyOk (k : Cm) (d : Dv) : Prop := ∀ x ∈ k.frames, x.dirty = true → x.block < d.blocks ∧ x.x.length = d.bytes
section
variable {z : CAt} {n : Nat} {h : CH} {k : Cm}
theorem cache_room_some (K : CHOk n h k) {d : Dv} (D : d.Ok) (B : DirtyOk k d) (hE : k.empty.length ≤ 5000) {f : Nat} {k1 : Cm} {d1 : Dv} (hro : roomO k d = some (f, k1, d1)) (w : World) (H : HC w (cacheB z h k ++ devB z.dv d)) :
    Calls Tryz.prog 116 #[.pointer (some ⟨z.c, 0, none⟩)] w fun e w' => e = .returned (.tuple #[.int .i64 f, .bool true]) ∧
      ∃ h', CHOk n h' k1 ∧ St w (FP w (cacheB z h k ++ devB z.dv d)) w' (cacheB z h' k1 ++ devB z.dv d1) := by
  unfold roomO at hro
  cases he : k.empty.getLast? with
  | some g =>
    rw [he] at hro
    simp only [Option.some.injEq, Prod.mk.injEq] at hro
    obtain ⟨rfl, rfl, rfl⟩ := hro
    have hne : k.empty ≠ [] := by intro e; rw [e] at he; cases he
    have e1 : k.empty = k.empty.dropLast ++ [g] := by
      obtain ⟨l, hl⟩ := List.getLast?_eq_some_iff.1 he
      rw [hl]; simp
    refine (cache_room_free K k.empty.dropLast g e1 (by simp; omega) w H.left).mono ?_
    rintro e w1 ⟨rfl, h', K', S⟩
    exact ⟨rfl, h', K', H.st.call S⟩
  | none =>
    rw [he] at hro
    have he0 : k.empty = [] := by rwa [List.getLast?_eq_none_iff] at he
    cases hr : k.row.getLast? with
    | none => rw [hr] at hro; cases hro
    | some g =>
      rw [hr] at hro
      simp only [Option.some.injEq, Prod.mk.injEq] at hro
      obtain ⟨rfl, rfl, rfl⟩ := hro
      have hg : g ∈ k.row := List.mem_of_getLast? hr
      have hgn : g < k.frames.length := by rw [K.len]; exact K.ring.lt g hg
      have hx : k.frames[g]? = some (k.frames.getD g default) := by simp [List.getD, List.getElem?_eq_getElem hgn]
      refine cache_room K D he0 g _ ?_ hx (B _ (List.mem_of_getElem? hx)) w H
      unfold lastOf
      have hne : k.row ≠ [] := by intro e; rw [e] at hr; cases hr
      rw [List.getLastD_eq_getLast?, hr]
      cases hrow : k.row with
      | nil => exact absurd hrow hne
      | cons a l => rfl
theorem cache_room_none (K : CHOk n h k) {d : Dv} (hro : roomO k d = none) (w : World) (H : HC w (cacheB z h k)) :
    Calls Tryz.prog 116 #[.pointer (some ⟨z.c, 0, none⟩)] w fun e w' => e = .returned (.tuple #[.int .i64 0, .bool false]) ∧ ∃ q, w' = w.drewN q := by
  unfold roomO at hro
  cases he : k.empty.getLast? with
  | some g => rw [he] at hro; cases hro
  | none =>
    rw [he] at hro
    have he0 : k.empty = [] := by rwa [List.getLast?_eq_none_iff] at he
    cases hr : k.row.getLast? with
    | some g => rw [hr] at hro; cases hro
    | none =>
      have hr0 : k.row = [] := by rwa [List.getLast?_eq_none_iff] at hr
      exact cache_room_no K he0 (by rw [hr0]; rfl) w H
/-- A frame of noughts, for Fresh. -/
def noughts (n : Nat) : List UInt8 := List.replicate n 0
set_option maxRecDepth 100000 in
set_option maxHeartbeats 4000000 in
/-- Fresh, of a block that is in no frame, where there is room. -/
theorem cache_fresh_new (K : CHOk n h k) {d : Dv} (D : d.Ok) (B : DirtyOk k d) (hE : k.empty.length ≤ 5000) (i : Nat) (hi : i < d.blocks) (hat : aGet k.at_ i = none)
    {f : Nat} (hf : f < n) {k1 : Cm} {d1 : Dv} (hd1 : d1.bytes = d.bytes) (hro : roomO k d = some (f, k1, d1)) (w : World) (H : HC w (cacheB z h k ++ devB z.dv d)) :
    Calls Tryz.prog 98 #[.pointer (some ⟨z.c, 0, none⟩), .int .u32 i] w fun e w' => e = .returned (.int .i64 0) ∧
      ∃ h' u L, Own eByte 5 u (noughts d.bytes) L ∧ CHOk n h' (putK k1 f ⟨i, u, noughts d.bytes, L, true, 0⟩) ∧
        St w (FP w (cacheB z h k ++ devB z.dv d)) w' (cacheB z h' (putK k1 f ⟨i, u, noughts d.bytes, L, true, 0⟩) ++ devB z.dv d1) := by
  have h1 := D.b1
  have h2 := D.y1
  have hth : Calls Tryz.prog 115 #[.pointer (some ⟨z.c, 0, none⟩), .int .u32 i] w fun e w' => e = .returned (.int .i64 0) ∧ ∃ q, w' = w.drewN q := by
    have := cache_there D i (by omega) w H
    rwa [show thereE d.blocks i = 0 by unfold thereE; rw [if_pos hi]] at this
  have hth := Lib.hid hth
  have hrm := Lib.hid (fun q => cache_room_some K D B hE hro (w.drewN q) (H.drewN q))
  have S := H.st
  generalize FP w (cacheB z h k ++ devB z.dv d) = F at *
  have hM := Lib.hid K.map
  have hat' := Lib.hid hat
  have hby := Lib.hid (fun w (H : HC w (devB z.dv d1)) => dev_bytes z.dv d1 w H)
  rw [hd1] at hby
  have S' := S
  unfold cacheB cacheH at S'
  have c2 := S'.cell 0 rfl 2 rfl
  have hOwn : Hid (∀ b, Own eByte 5 (.slice (some ⟨b, 0, none⟩) d.bytes d.bytes) (noughts d.bytes) [(b, C 5 (List.replicate d.bytes (Value.int .u8 0)))]) := by
    intro b
    refine .inr ⟨b, d.bytes, [], by simp [noughts], ?_, by simp [noughts], by unfold maxLen; omega, by rw [List.append_nil, eByte.all_len]; simp [noughts]⟩
    rw [List.append_nil, all_map]; simp [noughts]
  have k5 : IntKind.i64.wrap (d.bytes : Int) = (d.bytes : Int) := IntWalk.i64_in _ (by omega)
  clear hat hi H
  generalize d.bytes = bytes at *
  go_enter Tryz.func98, Tryz.ntmps98
  go_wp2_with (first | (go_at_call 115; refine hth.out.mono ?_; rintro e w' ⟨rfl, q, rfl⟩) |
    (refine wpl_lookup_ok (S'.drewN q) 2 rfl hM.out rfl _ 53 3 _ _ rfl Tryz.underlying129 Tryz.underlying53 int_zero i rfl rfl ?_; rw [hat'.out]; dsimp only [Option.getD_none, Option.isSome_none]) |
    (go_at_call 116; refine (hrm.out _).mono ?_))
  rintro e w2 ⟨rfl, h', K', S2⟩
  have S3 := (S.drewN q).seq S2
  clear S S' S2 c2
  have S4 := S3
  unfold cacheB cacheH at S4
  have c0 := S4.cell 0 rfl 0 rfl
  clear S4
  go_wp2_with (first | (go_at_call 45; refine (hby.out _ S3.hc.right).mono ?_; rintro e w' ⟨rfl, rfl⟩) | (at_make; refine wpl_make S3 rfl _ _ _ rfl 5 _ _ 1 1 Tryz.underlying29 info_byte ⟨rfl, rfl, Nat.zero_lt_succ _⟩ .i64 .i64 _ _ rfl rfl ?_ ?_; (omega)))
  intro b w3 hb S5
  replace S5 : St w F w3 ([(b, C 5 (List.replicate bytes (Value.int .u8 0)))] ++ cacheB z h' k1 ++ devB z.dv d1) := S5.cast (by simp)
  have hpu := Lib.hid (cache_put K' f hf ⟨i, .slice (some ⟨b, 0, none⟩) bytes bytes, noughts bytes, [(b, C 5 (List.replicate bytes (Value.int .u8 0)))], true, 0⟩ (hOwn.out b) w3 S5.hc.left)
  dsimp only at hpu
  go_wp2_with (go_at_call 117; refine hpu.out.mono ?_)
  rintro e w4 ⟨rfl, h2, K2, S6⟩
  go_wp2
  go_ret
  exact ⟨rfl, h2, _, _, hOwn.out b, K2, S5.call S6⟩
end
end Go.Proofs.YtnobknmhffaoeaaGreatDoor
namespace Go.Proofs.YtnobknmhffaoeaaGreatDoor
open Go.RowKit
section
variable {z : CAt} {n : Nat} {h : CH} {k : Cm}
set_option maxRecDepth 100000 in
set_option maxHeartbeats 4000000 in
/-- Fresh, of a block that is in a frame, not pinned. -/
theorem cache_fresh_old (K : CHOk n h k) {d : Dv} (D : d.Ok) (i : Nat) (hi : i < d.blocks) {f : Nat} (hat : aGet k.at_ i = some f) (hf : f < n) {x : Fr} (hx : k.frames[f]? = some x) (hp : x.pins = 0) (w : World) (H : HC w (cacheB z h k ++ devB z.dv d)) :
    Calls Tryz.prog 98 #[.pointer (some ⟨z.c, 0, none⟩), .int .u32 i] w fun e w' => e = .returned (.int .i64 0) ∧
      ∃ h' u L, Own eByte 5 u (noughts d.bytes) L ∧ CHOk n h' (putK k f ⟨i, u, noughts d.bytes, L, true, 0⟩) ∧
        St w (FP w (cacheB z h k ++ devB z.dv d)) w' (cacheB z h' (putK k f ⟨i, u, noughts d.bytes, L, true, 0⟩) ++ devB z.dv d) := by
  have h1 := D.b1
  have h2 := D.y1
  have hth : Calls Tryz.prog 115 #[.pointer (some ⟨z.c, 0, none⟩), .int .u32 i] w fun e w' => e = .returned (.int .i64 0) ∧ ∃ q, w' = w.drewN q := by
    have := cache_there D i (by omega) w H
    rwa [show thereE d.blocks i = 0 by unfold thereE; rw [if_pos hi]] at this
  have hth := Lib.hid hth
  have hn := K.len
  subst hn
  have S := H.st
  generalize FP w (cacheB z h k ++ devB z.dv d) = F at *
  have hM := Lib.hid K.map
  have hat' := Lib.hid hat
  have hby := Lib.hid (fun w (H : HC w (devB z.dv d)) => dev_bytes z.dv d w H)
  have S' := S
  unfold cacheB cacheH at S'
  have c2 := S'.cell 0 rfl 2 rfl
  have c1 := S'.cell 0 rfl 1 rfl
  have c0 := S'.cell 0 rfl 0 rfl
  have e3 := S'.cell 1 rfl (f * 4 + 3) ((fm_get encF_len k.frames f 3 x hx (by omega)).trans rfl)
  rw [hp] at e3
  have hfn : f < k.frames.length := (List.getElem?_eq_some_iff.1 hx).1
  have hOwn : Hid (∀ b, Own eByte 5 (.slice (some ⟨b, 0, none⟩) d.bytes d.bytes) (noughts d.bytes) [(b, C 5 (List.replicate d.bytes (Value.int .u8 0)))]) := by
    intro b
    refine .inr ⟨b, d.bytes, [], by simp [noughts], ?_, by simp [noughts], by unfold maxLen; omega, by rw [List.append_nil, eByte.all_len]; simp [noughts]⟩
    rw [List.append_nil, all_map]; simp [noughts]
  have k5 : IntKind.i64.wrap (d.bytes : Int) = (d.bytes : Int) := IntWalk.i64_in _ (by omega)
  clear hat hi H hx hp
  generalize d.bytes = bytes at *
  go_enter Tryz.func98, Tryz.ntmps98
  go_wp2_with (first | (go_at_call 115; refine hth.out.mono ?_; rintro e w' ⟨rfl, q, rfl⟩) |
    (refine wpl_lookup_ok (S'.drewN q) 2 rfl hM.out rfl _ 53 3 _ _ rfl Tryz.underlying129 Tryz.underlying53 int_zero i rfl rfl ?_; rw [hat'.out]; dsimp only [Option.getD_some, Option.isSome_some]) |
    (go_at_call 45; refine (hby.out _ (S.drewN q).hc.right).mono ?_; rintro e w' ⟨rfl, rfl⟩) | (at_make; refine wpl_make (S.drewN q) rfl _ _ _ rfl 5 _ _ 1 1 Tryz.underlying29 info_byte ⟨rfl, rfl, Nat.zero_lt_succ _⟩ .i64 .i64 _ _ rfl rfl ?_ ?_; (omega)))
  intro b w3 hb S5
  replace S5 : St w F w3 ([(b, C 5 (List.replicate bytes (Value.int .u8 0)))] ++ cacheB z h k ++ devB z.dv d) := S5.cast (by simp)
  have hpu := Lib.hid (cache_put K f hf ⟨i, .slice (some ⟨b, 0, none⟩) bytes bytes, noughts bytes, [(b, C 5 (List.replicate bytes (Value.int .u8 0)))], true, 0⟩ (hOwn.out b) w3 S5.hc.left)
  dsimp only at hpu
  go_wp2_with (go_at_call 117; refine hpu.out.mono ?_)
  rintro e w4 ⟨rfl, h2, K2, S6⟩
  go_wp2
  go_ret
  exact ⟨rfl, h2, _, _, hOwn.out b, K2, S5.call S6⟩
end
end Go.Proofs.YtnobknmhffaoeaaGreatDoor
namespace Go.Proofs.YtnobknmhffaoeaaGreatDoor
open Go.RowKit
theorem frame_info : (Tryz.prog.info? 150).map (fun i => (i.zero, i.size, i.bytes)) = some (some (.agg #[.int .u32 0, .slice none 0 0, .bool false, .int .i64 0]), 4, 48) := by kernel_rfl
theorem wpl_makeMap {P : Program} {w0 w : World} {F : Nat → Prop} {L : Blocks} {ops : Array Oper} {rest : List Oper} {o : Oper} {a : Act} {Q : Exit → Act → World → Prop} (S : St w0 F w L) (hgd : o.guard = none) (t : Nat) (ho : o.op = .makeMap t none)
    (K : ∀ m w', w.heap.size ≤ m → St w0 F w' ((m, .map #[] 0) :: L) → wpList P ops Q rest (a.put o.dst (.map (some m))) w') : wpList P ops Q (o :: rest) a w := by
  refine wpList_plain hgd fun K' hK => ?_
  have hr : (Instr.makeMap t none).run P w = .ok (.map (some w.heap.size)) (w.alloc (.map #[] 0)) := by
    simp only [Instr.makeMap, Sem.run_bind, Sem.run_pure, Result.andThen_ok, run_newObj_alloc]
  unfold Oper.wp execOp
  simp only [ho, Option.map_none, Sem.run_bind, hr, Result.andThen_ok, Sem.run_pure, Oper.upon_value]
  exact hK _ _ (K _ _ (Nat.le_refl _) (S.alloc _))
theorem map_none : MapIs (.map #[] 0) [] := ⟨#[], 0, rfl, rfl, by simp, by simp⟩
def newK (n : Nat) : Cm := ⟨List.replicate n Fr.zero, [], List.range n, []⟩
theorem flat_zero (n : Nat) : (List.replicate n [Value.int .u32 0, .slice none 0 0, .bool false, .int .i64 0]).flatten = (List.replicate n Fr.zero).flatMap encF := by
  induction n with
  | zero => rfl
  | succ n ih => rw [List.replicate_succ, List.replicate_succ, List.flatten_cons, List.flatMap_cons, ih]; rfl
set_option maxRecDepth 100000 in
set_option maxHeartbeats 4000000 in
theorem cache_new (dv : DAt) {d : Dv} (D : d.Ok) (n : Nat) (h1 : 1 ≤ n) (h2 : n ≤ 64) (w : World) (H : HC w (devB dv d)) :
    Calls Tryz.prog 43 #[.pointer (some ⟨dv.g, 0, none⟩), .int .i64 n] w fun e w' => ∃ c f m r rb h, e = .returned (.tuple #[.pointer (some ⟨c, 0, none⟩), .int .i64 0]) ∧
      CHOk n h (newK n) ∧ St w (FP w (devB dv d)) w' (cacheB ⟨c, f, m, r, rb, dv⟩ h (newK n) ++ devB dv d) := by
  have hb := Lib.hid (dev_blocks dv d w D H)
  have hch := Lib.hid (fun w => chain_new n w h1 (by omega))
  have hB0 := D.b0
  have k1 : ((d.blocks : Int) == 0) = false := by rw [beq_eq_false_iff_ne]; omega
  have k2 : ¬ (n : Int) < 1 := by omega
  have k3 : decide ((64 : Int) < (n : Int)) = false := by simp; omega
  have S := H.st
  generalize FP w (devB dv d) = F at *
  have hFZ := Lib.hid (flat_zero n)
  generalize d.blocks = B at hb k1 hB0
  go_enter Tryz.func43, Tryz.ntmps43
  go_wp2_with (first | (go_at_call 44; refine hb.out.mono ?_; rintro e w' ⟨rfl, q, rfl⟩) | (go_at_call 70; refine (hch.out _).mono ?_))
  rintro e w2 ⟨r, rb, l, rfl, R, S2⟩
  have S3 := (S.drewN q).pure S2
  clear S S2
  go_wp2_with (at_make; refine wpl_make S3 rfl _ _ _ rfl 150 _ _ 4 48 Tryz.underlying128 frame_info ⟨rfl, rfl, Nat.zero_lt_succ _⟩ .i64 .i64 _ _ rfl rfl ?_ ?_; (omega))
  intro fb w3 hfb S4
  go_wp2_with (refine wpl_makeMap S4 rfl _ rfl ?_)
  intro m w4 hm S5
  go_wp2_with (refine wpl_box S5 rfl _ _ rfl _ rfl ?_)
  intro c w5 hc S6
  replace S6 : St w F w5 ([] ++ ([(c, ccO ⟨c, fb, m, r, rb, dv⟩ n (.slice none 0 0)), (fb, cfO (List.replicate n Fr.zero)), (m, .map #[] 0)] ++ (chainB r rb l 0 ++ devB dv d))) :=
    ((S6.cast (L' := (c, ccO ⟨c, fb, m, r, rb, dv⟩ n (.slice none 0 0)) :: (m, .map #[] 0) :: (fb, cfO (List.replicate n Fr.zero)) :: (chainB r rb l 0 ++ devB dv d)) (by unfold cfO; rw [← hFZ.out])).perm ((List.Perm.swap _ _ _).cons _))
  clear S3 S4 S5
  go_wp2_with fail
  go_loopw [9, 37] (fun _ jv wr => ∃ j, j ≤ n ∧ jv = .int .i64 (j : Nat) ∧ ∃ ev L', Own (eNat .i64) 3 ev (List.range j) L' ∧
    St w F wr (L' ++ ([(c, ccO ⟨c, fb, m, r, rb, dv⟩ n ev), (fb, cfO (List.replicate n Fr.zero)), (m, .map #[] 0)] ++ (chainB r rb l 0 ++ devB dv d)))) (fun _ jv _ => n - (intOf jv).toNat)
  case atStart => exact ⟨0, by omega, rfl, _, [], Own.nil _ _, S6⟩
  case round =>
    obtain ⟨j, hj, rfl, ev, L', O, S1⟩ := hrel
    by_cases hjn : j < n
    · have c3 := (S1.perm (mid_perm L' [_, _, _] _)).cell 0 rfl 3 rfl
      have q1 : (j : Int) < (n : Int) := by omega
      have q2 : IntKind.i64.wrap ((j : Int) + 1) = ((j + 1 : Nat) : Int) := by rw [IntWalk.i64_in _ (by omega)]; omega
      go_wp2_with (at_builtin; refine wpl_append1 (A := L') (E := eNat .i64) (x := j) (S1.alloc _) O rfl _ _ 73 rfl _ 8 Tryz.underlying73 info_int rfl rfl rfl ?_ ?_; (exact ⟨by simp; omega, by omega⟩))
      intro v' w6 L2 O2 S7
      have S8 := S7.perm (mid_perm L2 [_, _, _] _)
      have hv1 := O2.one
      go_wp2_with (refine wpl_set rfl _ _ _ rfl _ _ rfl _ rfl sz_ints S8 0 _ _ rfl ?_ hv1 ?_; (simp))
      intro w7 S9
      replace S9 : St w F w7 ([(c, ccO ⟨c, fb, m, r, rb, dv⟩ n v'), (fb, cfO (List.replicate n Fr.zero)), (m, .map #[] 0)] ++ (L2 ++ (chainB r rb l 0 ++ devB dv d))) := S9.cast (by simp [chainB])
      go_wp2_with fail
      go_roundw
      case rel => exact ⟨j + 1, by omega, rfl, v', L2, by rw [List.range_succ]; exact O2, S9.perm (mid_perm _ _ _)⟩
      case measure => simp [intOf]; omega
    · have hjn2 : j = n := by omega
      subst hjn2
      have q1 : ¬ (j : Int) < (j : Int) := by omega
      go_wp2_with fail
      go_ret2
      refine ⟨c, rfl, fb, m, r, rb, ⟨.map #[] 0, ev, L', l⟩, ⟨by simp [newK], h1, by omega, map_none, O, R, fun u hu => ?_, by simp [newK]⟩, ?_⟩
      · rw [(List.mem_replicate.1 hu).2]; exact Own.nil _ _
      · refine (S1.perm ((mid_perm _ _ _).trans ((mid_perm _ _ _).append_left _))).cast ?_
        rw [cacheB_eq]
        have : frB (List.replicate j Fr.zero) = [] := by
          unfold frB; induction j with
          | zero => rfl
          | succ j ih => simp [List.replicate_succ, Fr.zero]
        simp [newK, this]
end Go.Proofs.YtnobknmhffaoeaaGreatDoor
namespace Go.Proofs.YtnobknmhffaoeaaGreatDoor
open Go.RowKit
structure CInv (n : Nat) (img : List (List UInt8)) (k : Cm) (d : Dv) (T : List Nat) : Prop where
  dok : d.Ok
  len : k.frames.length = n
  il : img.length = d.blocks
  each : ∀ x ∈ img, x.length = d.bytes
  keys : (k.at_.map Prod.fst).Nodup
  fr : ∀ i f, (i, f) ∈ k.at_ → ∃ x, k.frames[f]? = some x ∧ x.block = i ∧ i < d.blocks ∧ img[i]? = some x.x ∧ x.pins = 0 ∧ f ∈ k.row ∧ (x.dirty = false → d.img[i]? = some x.x)
  out : ∀ i, (∀ p ∈ k.at_, p.1 ≠ i) → d.img[i]? = img[i]?
  row : ∀ f ∈ k.row, ∃ i, (i, f) ∈ k.at_
  idle : ∀ f x, k.frames[f]? = some x → x.dirty = true → f ∈ k.row
  nod : (k.empty ++ k.row ++ T).Nodup
  full : (k.empty ++ k.row ++ T).length = n
  lt : ∀ f ∈ k.empty ++ k.row ++ T, f < n
  atl : k.at_.length = k.row.length
section
variable {n : Nat} {img : List (List UInt8)} {k : Cm} {d : Dv} {T : List Nat}
theorem CInv.at_len (K : CInv n img k d T) : k.at_.length ≤ n := by
  have h1 := K.full
  have h2 := K.atl
  simp only [List.length_append] at h1
  omega
theorem CInv.dirty (K : CInv n img k d T) : DirtyOk k d := by
  intro x hx hd
  obtain ⟨f, hf⟩ := List.getElem?_of_mem hx
  obtain ⟨i, hi⟩ := K.row f (K.idle f x hf hd)
  obtain ⟨y, hy, h1, h2, h3, _⟩ := K.fr i f hi
  rw [hf] at hy; injection hy with hy; subst hy
  exact ⟨by rw [h1]; exact h2, K.each _ (List.mem_of_getElem? h3)⟩
theorem aGet_none {M : List (Nat × Nat)} {i : Nat} : aGet M i = none ↔ ∀ p ∈ M, p.1 ≠ i := by
  constructor
  · intro h
    unfold aGet at h
    cases hf : aFind i M 0 with
    | none => exact aFind_none hf
    | some p => rw [hf] at h; cases h
  · intro h
    cases hg : aGet M i with
    | none => rfl
    | some f => exact absurd rfl (h _ (aGet_mem hg))
theorem aFind_of_none {M : List (Nat × Nat)} {i : Nat} (h : ∀ p ∈ M, p.1 ≠ i) : aFind i M 0 = none := by
  cases hf : aFind i M 0 with
  | none => rfl
  | some p =>
    obtain ⟨a, b⟩ := p
    exact absurd rfl (h _ (aFind_mem hf))
theorem aPut_none {M : List (Nat × Nat)} {i v : Nat} (h : ∀ p ∈ M, p.1 ≠ i) : aPut M i v = M ++ [(i, v)] := by
  unfold aPut; rw [aFind_of_none h]
theorem aGet_some {M : List (Nat × Nat)} {i f : Nat} (hn : (M.map Prod.fst).Nodup) (h : (i, f) ∈ M) : aGet M i = some f := by
  cases hg : aGet M i with
  | none => exact absurd rfl (aGet_none.1 hg _ h)
  | some g =>
    have hm := aGet_mem hg
    obtain ⟨a, ha⟩ := List.getElem?_of_mem h
    obtain ⟨b, hb⟩ := List.getElem?_of_mem hm
    obtain ⟨ha1, ha2⟩ := List.getElem?_eq_some_iff.1 (show (M.map Prod.fst)[a]? = some i by rw [List.getElem?_map, ha]; rfl)
    obtain ⟨hb1, hb2⟩ := List.getElem?_eq_some_iff.1 (show (M.map Prod.fst)[b]? = some i by rw [List.getElem?_map, hb]; rfl)
    have := (List.getElem_inj (h₀ := ha1) (h₁ := hb1) hn).1 (ha2.trans hb2.symm)
    subst this
    rw [ha] at hb; injection hb with hb; injection hb with _ hb; rw [hb]
theorem aDel_spec {M : List (Nat × Nat)} {i f : Nat} (hn : (M.map Prod.fst).Nodup) (h : (i, f) ∈ M) :
    ∃ A B, M = A ++ (i, f) :: B ∧ aDel M i = A ++ B := by
  have hg := aGet_some hn h
  unfold aGet at hg
  cases hf : aFind i M 0 with
  | none => rw [hf] at hg; cases hg
  | some p =>
    obtain ⟨j, b⟩ := p
    rw [hf] at hg; injection hg with hg; simp at hg; subst hg
    obtain ⟨_, hj⟩ := aFind_some hf
    rw [Nat.sub_zero] at hj
    have hlt := (List.getElem?_eq_some_iff.1 hj).1
    refine ⟨M.take j, M.drop (j + 1), ?_, ?_⟩
    · have := List.take_append_drop j M
      rw [List.drop_eq_getElem_cons hlt, (List.getElem?_eq_some_iff.1 hj).2] at this
      exact this.symm
    · unfold aDel; rw [hf]
      show M.eraseIdx j = _
      rw [List.eraseIdx_eq_take_drop_succ]
theorem room_inv (K : CInv n img k d []) (hn : 1 ≤ n) : ∃ f k1 d1, roomO k d = some (f, k1, d1) ∧ CInv n img k1 d1 [f] ∧ d1.blocks = d.blocks ∧ d1.bytes = d.bytes ∧ ∀ i, aGet k.at_ i = none → aGet k1.at_ i = none := by
  unfold roomO
  have hfull := K.full
  have hnod := K.nod
  have hlt := K.lt
  simp only [List.append_nil] at hfull hnod hlt
  cases he : k.empty.getLast? with
  | some f =>
    have hne : k.empty ≠ [] := by intro e; rw [e] at he; cases he
    have hsp : k.empty = k.empty.dropLast ++ [f] := by
      have h1 := List.dropLast_concat_getLast hne
      rw [List.getLast?_eq_some_getLast hne] at he
      injection he with he
      rw [he] at h1; exact h1.symm
    have hp : (k.empty.dropLast ++ k.row ++ [f]).Perm (k.empty ++ k.row) := by
      conv => rhs; rw [hsp]
      rw [List.append_assoc, List.append_assoc]
      exact List.Perm.append_left _ List.perm_append_comm
    exact ⟨f, _, d, rfl, ⟨K.dok, K.len, K.il, K.each, K.keys, K.fr, K.out, K.row, K.idle, hp.nodup_iff.2 hnod, by rw [hp.length_eq]; exact hfull, fun g hg => hlt g (hp.mem_iff.1 hg), K.atl⟩, rfl, rfl, fun _ h => h⟩
  | none =>
    have he0 : k.empty = [] := by rwa [List.getLast?_eq_none_iff] at he
    rw [he0, List.nil_append] at hfull hnod hlt
    cases hr : k.row.getLast? with
    | none =>
      have : k.row = [] := by rwa [List.getLast?_eq_none_iff] at hr
      rw [this] at hfull; simp at hfull; omega
    | some f =>
      have hfr : f ∈ k.row := List.mem_of_getLast? hr
      obtain ⟨i, hi⟩ := K.row f hfr
      obtain ⟨x, hx, h1, h2, h3, h4, h5, h6⟩ := K.fr i f hi
      have hxd : k.frames.getD f default = x := by rw [List.getD_eq_getElem?_getD, hx]; rfl
      have hfn : f < k.frames.length := (List.getElem?_eq_some_iff.1 hx).1
      obtain ⟨A, B, hM, hD⟩ := aDel_spec K.keys hi
      have hbk : (backD d x).blocks = d.blocks ∧ (backD d x).bytes = d.bytes ∧ (backD d x).Ok ∧ ∀ j, (backD d x).img[j]? = if j = i then some x.x else d.img[j]? := by
        unfold backD
        have hxl := K.each _ (List.mem_of_getElem? h3)
        cases hd : x.dirty with
        | false =>
          refine ⟨rfl, rfl, K.dok, fun j => ?_⟩
          simp only [Bool.false_eq_true, if_false]
          by_cases hj : j = i
          · rw [if_pos hj, hj]; exact h6 hd
          · rw [if_neg hj]
        | true =>
          refine ⟨rfl, rfl, K.dok.write _ hxl, fun j => ?_⟩
          simp only [if_true, Dv.write, h1]
          by_cases hj : j = i
          · rw [if_pos hj, hj, List.getElem?_set_self (by rw [K.dok.len]; exact h2)]
          · rw [if_neg hj, List.getElem?_set_ne (fun e => hj e.symm)]
      obtain ⟨q1, q2, q3, q4⟩ := hbk
      have hkeys := K.keys
      rw [hM] at hkeys
      simp only [List.map_append, List.map_cons] at hkeys
      have hsub : ∀ p ∈ A ++ B, p ∈ k.at_ ∧ p.1 ≠ i := by
        intro p hp
        refine ⟨by rw [hM]; simp at hp ⊢; rcases hp with h | h <;> simp [h], fun e => ?_⟩
        have h0 := (List.perm_middle.nodup_iff.1 hkeys)
        rw [List.nodup_cons] at h0
        exact h0.1 (by rw [← e, ← List.map_append]; exact List.mem_map_of_mem hp)
      have hone : ∀ p ∈ A ++ B, p.2 ≠ f := by
        intro p hp e
        obtain ⟨hp1, hp2⟩ := hsub p hp
        obtain ⟨y, hy, hy1, _⟩ := K.fr p.1 p.2 hp1
        rw [e, hx] at hy; injection hy with hy; subst hy
        exact hp2 (hy1.symm.trans h1)
      refine ⟨f, _, _, rfl, ?_, by rw [hxd]; exact q1, by rw [hxd]; exact q2, fun j hj => ?_⟩
      · rw [hxd]
        have hmem : ∀ g, g ∈ k.row.erase f → g ∈ k.row ∧ g ≠ f := fun g hg => ⟨List.mem_of_mem_erase hg, fun e => by subst e; exact (List.Nodup.not_mem_erase hnod) hg⟩
        have hp : (k.row.erase f ++ [f]).Perm k.row := (List.perm_append_comm.trans (List.perm_cons_erase hfr).symm)
        refine ⟨q3, ?_, by rw [q1]; exact K.il, by rw [q2]; exact K.each, ?_, ?_, ?_, ?_, ?_, ?_, ?_, ?_, ?_⟩
        · show (k.frames.set f Fr.zero).length = n; rw [List.length_set]; exact K.len
        · show ((aDel k.at_ x.block).map Prod.fst).Nodup
          rw [h1, hD, List.map_append]
          have h0 := (List.perm_middle.nodup_iff.1 hkeys)
          exact (List.nodup_cons.1 h0).2
        · intro j g hg
          rw [show (outK k f x).at_ = A ++ B by show aDel k.at_ x.block = _; rw [h1, hD]] at hg
          obtain ⟨hg1, hg2⟩ := hsub _ hg
          have hg3 := hone _ hg
          obtain ⟨y, y1, y2, y3, y4, y5, y6, y7⟩ := K.fr j g hg1
          refine ⟨y, ?_, y2, by rw [q1]; exact y3, y4, y5, ?_, fun hyd => ?_⟩
          · show (k.frames.set f Fr.zero)[g]? = _
            rw [List.getElem?_set_ne (fun e => hg3 e.symm)]; exact y1
          · exact (List.mem_erase_of_ne hg3).2 y6
          · rw [q4, if_neg hg2]; exact y7 hyd
        · intro j hj
          rw [show (outK k f x).at_ = A ++ B by show aDel k.at_ x.block = _; rw [h1, hD]] at hj
          rw [q4]
          by_cases hji : j = i
          · rw [if_pos hji, hji]; exact h3.symm
          · rw [if_neg hji]
            refine K.out j (fun p hp e => ?_)
            rw [hM] at hp
            rcases List.mem_append.1 hp with hp | hp
            · exact hj p (List.mem_append_left _ hp) e
            · rcases List.mem_cons.1 hp with rfl | hp
              · exact hji e.symm
              · exact hj p (List.mem_append_right _ hp) e
        · intro g hg
          obtain ⟨hg1, hg2⟩ := hmem g hg
          obtain ⟨j, hj⟩ := K.row g hg1
          refine ⟨j, ?_⟩
          show _ ∈ aDel k.at_ x.block
          rw [h1, hD]
          rw [hM] at hj
          rcases List.mem_append.1 hj with hj | hj
          · exact List.mem_append_left _ hj
          · rcases List.mem_cons.1 hj with hj | hj
            · injection hj with _ hj; exact absurd hj hg2
            · exact List.mem_append_right _ hj
        · intro g y hy hyd
          have hy' : (k.frames.set f Fr.zero)[g]? = some y := hy
          by_cases hgf : g = f
          · subst hgf
            rw [List.getElem?_set_self hfn] at hy'
            injection hy' with hy'; subst hy'; cases hyd
          · rw [List.getElem?_set_ne (fun e => hgf e.symm)] at hy'
            exact (List.mem_erase_of_ne hgf).2 (K.idle g y hy' hyd)
        · show ([] ++ k.row.erase f ++ [f]).Nodup
          rw [List.nil_append]; exact hp.nodup_iff.2 hnod
        · show ([] ++ k.row.erase f ++ [f]).length = n
          rw [List.nil_append, hp.length_eq]; exact hfull
        · intro g hg
          have hg' : g ∈ [] ++ k.row.erase f ++ [f] := hg
          rw [List.nil_append] at hg'
          exact hlt g (hp.mem_iff.1 hg')
        · show (aDel k.at_ x.block).length = (k.row.erase f).length
          have h0 := K.atl
          rw [h1, hD, List.length_erase_of_mem hfr]
          rw [hM] at h0
          simp at h0 ⊢; omega
      · rw [aGet_none] at hj ⊢
        intro p hp
        have hp' : p ∈ aDel k.at_ (k.frames.getD f default).block := hp
        exact hj p (aDel_mem hp')
/-- A block laid in the frame that was taken. -/
def laidK (k : Cm) (f i : Nat) (u : Value) (bs : List UInt8) (L : Blocks) : Cm := ⟨k.frames.set f ⟨i, u, bs, L, true, 0⟩, k.at_ ++ [(i, f)], k.empty, f :: k.row⟩
theorem laid_inv {f i : Nat} (K : CInv n img k d [f]) (hi : aGet k.at_ i = none) (hb : i < d.blocks) (u : Value) (bs : List UInt8) (L : Blocks) (hbs : bs.length = d.bytes) :
    CInv n (img.set i bs) (laidK k f i u bs L) d [] := by
  have hnod := K.nod
  have hf : f < n := K.lt f (by simp)
  have hfr : f ∉ k.row ∧ f ∉ k.empty := by
    have := (List.nodup_append.1 hnod).2.2
    exact ⟨fun h => this f (List.mem_append_right _ h) f (by simp) rfl, fun h => this f (List.mem_append_left _ h) f (by simp) rfl⟩
  have hi' := aGet_none.1 hi
  have hp : (k.empty ++ (f :: k.row)).Perm (k.empty ++ k.row ++ [f]) := by
    rw [List.append_assoc]
    exact List.Perm.append_left _ (List.perm_append_comm (l₁ := [f]) (l₂ := k.row))
  refine ⟨K.dok, ?_, by rw [List.length_set]; exact K.il, ?_, ?_, ?_, ?_, ?_, ?_, ?_, ?_, ?_, ?_⟩
  · show (k.frames.set _ _).length = n; rw [List.length_set]; exact K.len
  · intro x hx
    rcases List.mem_or_eq_of_mem_set hx with h | h
    · exact K.each x h
    · rw [h]; exact hbs
  · show ((k.at_ ++ [(i, f)]).map Prod.fst).Nodup
    rw [List.map_append]
    refine List.nodup_append.2 ⟨K.keys, by simp, fun a ha b hb' e => ?_⟩
    obtain ⟨p, hp1, hp2⟩ := List.mem_map.1 ha
    simp at hb'
    exact hi' p hp1 (hp2.trans (e.trans hb'))
  · intro j g hg
    rcases List.mem_append.1 hg with hg | hg
    · obtain ⟨y, y1, y2, y3, y4, y5, y6, y7⟩ := K.fr j g hg
      have hji : j ≠ i := hi' _ hg
      have hgf : g ≠ f := fun e => hfr.1 (e ▸ y6)
      refine ⟨y, ?_, y2, y3, ?_, y5, List.mem_cons_of_mem _ y6, y7⟩
      · show (k.frames.set f _)[g]? = _; rw [List.getElem?_set_ne (fun e => hgf e.symm)]; exact y1
      · rw [List.getElem?_set_ne (fun e => hji e.symm)]; exact y4
    · simp at hg
      obtain ⟨rfl, rfl⟩ := hg
      refine ⟨⟨j, u, bs, L, true, 0⟩, ?_, rfl, hb, ?_, rfl, List.mem_cons_self, fun h => by cases h⟩
      · show (k.frames.set g _)[g]? = _; rw [List.getElem?_set_self (by rw [K.len]; exact hf)]
      · rw [List.getElem?_set_self (by rw [K.il]; exact hb)]
  · intro j hj
    have hji : j ≠ i := fun e => hj (i, f) (List.mem_append_right _ (by simp)) e.symm
    rw [List.getElem?_set_ne (fun e => hji e.symm)]
    exact K.out j (fun p hp => hj p (List.mem_append_left _ hp))
  · intro g hg
    rcases List.mem_cons.1 hg with rfl | hg
    · exact ⟨i, List.mem_append_right _ (by simp)⟩
    · obtain ⟨j, hj⟩ := K.row g hg
      exact ⟨j, List.mem_append_left _ hj⟩
  · intro g y hy hyd
    by_cases hgf : g = f
    · rw [hgf]; exact List.mem_cons_self
    · have hy' : (k.frames.set f _)[g]? = some y := hy
      rw [List.getElem?_set_ne (fun e => hgf e.symm)] at hy'
      exact List.mem_cons_of_mem _ (K.idle g y hy' hyd)
  · show (k.empty ++ (f :: k.row) ++ []).Nodup; rw [List.append_nil]; exact hp.nodup_iff.2 hnod
  · show (k.empty ++ (f :: k.row) ++ []).length = n; rw [List.append_nil, hp.length_eq]; exact K.full
  · intro g hg
    have hg' : g ∈ k.empty ++ (f :: k.row) ++ [] := hg
    rw [List.append_nil] at hg'
    exact K.lt g (hp.mem_iff.1 hg')
  · show (k.at_ ++ [(i, f)]).length = (f :: k.row).length
    simp [K.atl]
/-- A frame's block written back. -/
theorem back_inv {i f : Nat} {x : Fr} (K : CInv n img k d []) (hi : (i, f) ∈ k.at_) (hx : k.frames[f]? = some x) (rest : List Nat) (hr : ∀ j, j ∉ i :: rest → d.img[j]? = img[j]?) :
    CInv n img (setF k f { x with dirty := false }) (backD d x) [] ∧ (backD d x).blocks = d.blocks ∧ (backD d x).bytes = d.bytes ∧ ∀ j, j ∉ rest → (backD d x).img[j]? = img[j]? := by
  obtain ⟨y, hy, h1, h2, h3, h4, h5, h6⟩ := K.fr i f hi
  rw [hx] at hy; injection hy with hy; subst hy
  have hfn : f < k.frames.length := (List.getElem?_eq_some_iff.1 hx).1
  have hbk : (backD d x).blocks = d.blocks ∧ (backD d x).bytes = d.bytes ∧ (backD d x).Ok ∧ ∀ j, (backD d x).img[j]? = if j = i then some x.x else d.img[j]? := by
    unfold backD
    have hxl := K.each _ (List.mem_of_getElem? h3)
    cases hd : x.dirty with
    | false =>
      refine ⟨rfl, rfl, K.dok, fun j => ?_⟩
      simp only [Bool.false_eq_true, if_false]
      by_cases hj : j = i
      · rw [if_pos hj, hj]; exact h6 hd
      · rw [if_neg hj]
    | true =>
      refine ⟨rfl, rfl, K.dok.write _ hxl, fun j => ?_⟩
      simp only [if_true, Dv.write, h1]
      by_cases hj : j = i
      · rw [if_pos hj, hj, List.getElem?_set_self (by rw [K.dok.len]; exact h2)]
      · rw [if_neg hj, List.getElem?_set_ne (fun e => hj e.symm)]
  obtain ⟨q1, q2, q3, q4⟩ := hbk
  have heq : ∀ j, j ∉ rest → (backD d x).img[j]? = img[j]? := by
    intro j hj
    rw [q4]
    by_cases hji : j = i
    · rw [if_pos hji, hji]; exact h3.symm
    · rw [if_neg hji]; exact hr j (by simp [hji, hj])
  refine ⟨⟨q3, ?_, by rw [q1]; exact K.il, by rw [q2]; exact K.each, K.keys, ?_, ?_, K.row, ?_, K.nod, K.full, K.lt, K.atl⟩, q1, q2, heq⟩
  · show (k.frames.set f _).length = n; rw [List.length_set]; exact K.len
  · intro j g hg
    obtain ⟨y, y1, y2, y3, y4, y5, y6, y7⟩ := K.fr j g hg
    by_cases hgf : g = f
    · rw [hgf, hx] at y1; injection y1 with y1; subst y1
      have hji : j = i := y2.symm.trans h1
      refine ⟨{ x with dirty := false }, ?_, y2, by rw [q1]; exact y3, y4, y5, y6, fun _ => ?_⟩
      · show (k.frames.set f _)[g]? = _; rw [hgf, List.getElem?_set_self hfn]
      · rw [q4, if_pos hji]
    · refine ⟨y, ?_, y2, by rw [q1]; exact y3, y4, y5, y6, fun hyd => ?_⟩
      · show (k.frames.set f _)[g]? = _; rw [List.getElem?_set_ne (fun e => hgf e.symm)]; exact y1
      · rw [q4]
        by_cases hji : j = i
        · rw [if_pos hji, ← h3, ← hji]; exact y4
        · rw [if_neg hji]; exact y7 hyd
  · intro j hj
    rw [q4, if_neg (fun e => hj (i, f) hi e.symm)]; exact K.out j hj
  · intro g y hy hyd
    by_cases hgf : g = f
    · rw [hgf]; exact h5
    · have hy' : (k.frames.set f _)[g]? = some y := hy
      rw [List.getElem?_set_ne (fun e => hgf e.symm)] at hy'
      exact K.idle g y hy' hyd
/-- What is not dirty lies on the device. -/
theorem CInv.clean (K : CInv n img k d []) (i : Nat) (h : ∀ f x, (i, f) ∈ k.at_ → k.frames[f]? = some x → x.dirty = false) : d.img[i]? = img[i]? := by
  by_cases hm : ∃ p ∈ k.at_, p.1 = i
  · obtain ⟨⟨j, f⟩, hp, rfl⟩ := hm
    obtain ⟨y, y1, y2, y3, y4, y5, y6, y7⟩ := K.fr _ _ hp
    rw [y4]; exact y7 (h f y hp y1)
  · exact K.out i (fun p hp e => hm ⟨p, hp, e⟩)
theorem CInv.new {d : Dv} (D : d.Ok) : CInv n d.img (newK n) d [] :=
  ⟨D, by simp [newK], D.len, D.each, by simp [newK], fun i f h => by simp [newK] at h, fun _ _ => rfl, fun f h => by simp [newK] at h,
    fun f x hx hd => by
      have := List.mem_of_getElem? hx
      have := (List.mem_replicate.1 this).2
      subst this; exact (by cases hd),
    by simp [newK, List.nodup_range], by simp [newK], fun f h => by simpa [newK] using h, rfl⟩
end
end Go.Proofs.YtnobknmhffaoeaaGreatDoor
namespace Go.Proofs.YtnobknmhffaoeaaGreatDoor
open Go.RowKit
theorem turn_putObj {w : World} {r : Nat} {o : Obj} (o' : Obj) (h : w.heap[r]? = some o) : Turn w (w.putObj r o') r o' := turn_setObj h
/-- A block that is not of ours, and new, has turned. -/
theorem St.other {w0 w : World} {F : Nat → Prop} {L : Blocks} (S : St w0 F w L) {r : Nat} (hr : w0.heap.size ≤ r) (hne : r ∉ keysOf L) (o' : Obj) : St w0 F (w.putObj r o') L := by
  refine ⟨S.os, S.tape, S.output, by rw [World.putObj_size]; exact S.size, fun k hk hF => ?_, ⟨S.hc.1, fun p hp => ?_⟩, S.foot, S.fresh⟩
  · rw [World.putObj_heap_other (by omega)]; exact S.kept k hk hF
  · have : p.1 ≠ r := fun e => hne (by rw [← e]; exact List.mem_map_of_mem hp)
    rw [World.putObj_heap_other this]; exact S.hc.2 p hp
def NoIter (L : Blocks) : Prop := ∀ p ∈ L, ∀ m s q c, p.2 ≠ .mapIter m s q c
theorem St.not_iter {w0 w : World} {F : Nat → Prop} {L : Blocks} (S : St w0 F w L) (hn : NoIter L) {r : Nat} {m : Option Nat} {s : Nat} {q : Array Nat} {c : Nat} (h : w.heap[r]? = some (.mapIter m s q c)) : r ∉ keysOf L := by
  intro hk
  obtain ⟨p, hp, rfl⟩ := List.mem_map.1 hk
  have := S.hc.2 p hp
  rw [h] at this; injection this with this
  exact hn p hp m s q c this.symm
section
variable {P : Program} {Fe : Fence} {n : Nat} {w0 w : World} {F : Nat → Prop} {L : Blocks} {ops : Array Oper} {rest : List Oper} {o : Oper} {a : Act} {Q : Exit → Act → World → Prop}
/-- An operation that runs to a value, is no call and no defer. -/
theorem gil_run (hg : o.guard = none) (hno : o.about P w a.eval = none) (hnd : ∀ c, o.op ≠ .defer c) {v : Value} {w' : World} (hr : (execOp a.eval o).run P w = .ok (.value v) w') (hk : wpListIn Fe n P ops Q rest (a.put o.dst v) w') : wpListIn Fe n P ops Q (o :: rest) a w := by
  refine wpListIn_plain hg fun K' hK' => ?_
  unfold Oper.wpIn
  refine ⟨fun f hf => absurd hf (by rw [hno]; simp), ?_⟩
  rw [Oper.semAt_plain Fe _ _ hnd, hr]
  exact hK' _ _ hk
theorem gil_range (hg : o.guard = none) (t : Nat) (m : Operand) (hop : o.op = .range t m) {k e b : Nat} (ht : P.underlying t = some (.map k e)) (hm : a.eval m = .map (some b)) {es : Array MapEntry} {clock : Nat} (hb : w.heap[b]? = some (.map es clock))
    (hk : wpListIn Fe n P ops Q rest (a.put o.dst (.pointer (some ⟨w.heap.size, 0, none⟩))) (w.alloc (.mapIter (some b) clock #[] clock))) : wpListIn Fe n P ops Q (o :: rest) a w := by
  refine gil_run hg (by simp [Oper.about, hop]) (by rw [hop]; intro c h; cases h) (v := .pointer (some ⟨w.heap.size, 0, none⟩)) (w' := w.alloc (.mapIter (some b) clock #[] clock)) ?_ hk
  have := run_range_map (P := P) w t k e b es clock ht hb
  simp [execOp, hop, hm, this, Result.andThen]
theorem gil_next (hg : o.guard = none) (it : Operand) (hop : o.op = .next it false) {r b since c0 clock : Nat} {seen : Array Nat} {es : Array MapEntry} (hit : a.eval it = .pointer (some ⟨r, 0, none⟩)) (hr : w.heap[r]? = some (.mapIter (some b) since seen c0)) (hb : w.heap[b]? = some (.map es clock))
    (hold : ∀ x ∈ es.toList, x.born < since) (hsc : since ≤ c0)
    (hDone : Hid ((leftOf es seen).size = 0) → wpListIn Fe n P ops Q rest (a.put o.dst (.tuple #[.bool false])) w)
    (hMore : ∀ e w1, Hid (e ∈ (leftOf es seen).toList ∧ (w1 = w ∨ w1 = w.drew)) → wpListIn Fe n P ops Q rest (a.put o.dst (.tuple #[.bool true, e.key, e.val])) (w1.putObj r (.mapIter (some b) since (seen.push e.born) clock))) :
    wpListIn Fe n P ops Q (o :: rest) a w := by
  have hab : o.about P w a.eval = none := by simp [Oper.about, hop]
  have hnd : ∀ c, o.op ≠ .defer c := by rw [hop]; intro c h; cases h
  rcases run_next_at (P := P) w o.type r b since c0 seen es clock hr hb hold hsc with ⟨h0, hrun⟩ | ⟨e, he, w1, hal, hrun⟩
  · exact gil_run hg hab hnd (by simp [execOp, hop, hit, hrun, Result.andThen]) (hDone (Lib.hid h0))
  · exact gil_run hg hab hnd (by simp [execOp, hop, hit, hrun, Result.andThen]; rfl) (hMore e w1 (Lib.hid ⟨he, hal⟩))
end
section
variable {P : Program} {α : Type} {E : Lay α} {e : Nat} {w0 w : World} {F : Nat → Prop} {xs : List α} {A R : Blocks} {ops : Array Oper} {rest : List Oper} {o : Oper} {a : Act} {Q : Exit → Act → World → Prop} {Fe : Fence} {n : Nat}
/-- append of one element that was just built. -/
theorem gil_append1 {g : Nat} {x : α} {v : Value} (S : St w0 F w ((g, C e (E.enc x)) :: (A ++ R))) (O : Own E e v xs A) (hgd : o.guard = none) (s y : Operand) (t : Nat)
    (ho : o.op = .call { callee := .builtin .append, args := #[s, y], argTypes := #[t, t] }) (z : Value) (by_ : Nat) (ht : P.underlying t = some (.slice e))
    (hinfo : (P.info? e).map (fun i => (i.zero, i.size, i.bytes)) = some (some z, E.sz, by_)) (hz : z.cells.size = E.sz) (hs : a.eval s = v) (hy : a.eval y = .slice (some ⟨g, 0, none⟩) 1 1)
    (hb : xs.length + 1 ≤ 2147483648 ∧ by_ ≤ 65536)
    (K : ∀ v' w' A', Own E e v' (xs ++ [x]) A' → St w0 F w' (A' ++ R) → wpListIn Fe n P ops Q rest (a.put o.dst v') w') : wpListIn Fe n P ops Q (o :: rest) a w := by
  obtain ⟨i, hi, hz0, hz1, hz2⟩ := info_parts hinfo
  have S' := S.front
  have hgb := S.hc.at_ 0 (k := g) (o := C e (E.enc x)) rfl
  have hbytes : (xs.length + 1) * by_ ≤ 140737488355328 := by
    have := Nat.mul_le_mul hb.1 hb.2
    omega
  have hrun := run_append_own_at (P := P) w 0 t o.type e i z E.sz by_ ht hi hz0 hz1 hz2 hz E.pos v xs.length (E.all xs) (O.owns S'.hc.left) ⟨g, 0, none⟩ 1 1 (E.enc x) (by rw [E.len, Nat.one_mul])
    (fun j u hj => by
      have : (⟨g, 0, none⟩ : Addr).add j = ⟨g, j, none⟩ := by unfold Addr.add; split <;> simp_all
      rw [this, cell_of_row w g j _ e (0, 0) hgb]; simpa using hj) (E.one x) (by simp only [maxLen]; omega) hbytes (Nat.zero_le _)
  obtain ⟨v', w', hr, h2, h3, _, h5⟩ := hrun
  have e1 : E.all xs ++ E.enc x = E.all (xs ++ [x]) := by rw [E.all_append]; simp [Lay.all]
  rw [e1] at h2
  obtain ⟨A', O', S2⟩ := S'.grown O h2 (by simp) h3 h5
  refine wpListIn_plain hgd fun K' hK => ?_
  unfold Oper.wpIn
  refine ⟨?_, ?_⟩
  · simp [Oper.about, ho, resolve, Target.leads, Sem.run_pure]
  · rw [Oper.semAt_plain Fe _ _ (by rw [ho]; intro c hc'; cases hc')]
    simp [execOp, ho, resolve, invoke, builtin, hs, hy, hr, Result.andThen]
    exact hK _ _ (K v' w' A' O' S2.drop)
end
/-- A round, out of its body's walk, where the loop's record is one of our blocks. -/
theorem yield_st {P : Program} {Fe : Fence} {m : Nat} {w0 W : World} {F : Nat → Prop} {L : Blocks} (S : St w0 F W L) (i l : Nat) (rec : Loop) (hi : L[i]? = some (l, .loop rec)) (hs : rec.state = .ready) (args : Array Value) (ha : args.size = rec.params.size) (hfn : Fe.fn rec.fn) {R : Ending → World → Prop}
    (h : rec.assign.wpIn (Fe.inRound l) m P (Exit.then (fun a₁ w₁ => ∃ w₂, (Instr.beginRound l).run P w₁ = .ok () w₂ ∧ rec.body.wpIn (Fe.inRound l) m P (roundPost P l R) a₁ w₂) (fun _ _ _ => False))
      { tmps := (rec.params.zip args).foldl (fun tmps (t, a) => tmps.setIfInBounds t a) rec.tmps, defers := [] } W) : YieldAt Fe m P l args W R :=
  ⟨rec.fn, _, rec.assign, rec.body, run_yield (S.obj i hi) ha, roundIn_of_wpIn hfn h⟩
theorem begin_st {P : Program} {w0 W : World} {F : Nat → Prop} {L : Blocks} (S : St w0 F W L) (i l : Nat) (rec : Loop) (hi : L[i]? = some (l, .loop rec)) (hs : rec.state = .ready) :
    ∃ w2, (Instr.beginRound l).run P W = .ok () w2 ∧ St w0 F w2 (L.set i (l, .loop { rec with state := .busy })) :=
  ⟨_, run_beginRound (S.obj i hi) hs, S.turn i hi (turn_putObj _ (S.obj i hi))⟩
theorem end_st {P : Program} {w0 W : World} {F : Nat → Prop} {L : Blocks} (S : St w0 F W L) (i l : Nat) (rec : Loop) (hi : L[i]? = some (l, .loop rec)) (jump : Option Code) :
    ∃ w2, (Instr.endRound l jump).run P W = .ok (.bool jump.isNone) w2 ∧ St w0 F w2 (L.set i (l, .loop { rec with state := if jump.isNone then .ready else .done, pending := jump })) :=
  ⟨_, run_endRound jump (S.obj i hi), S.turn i hi (turn_putObj _ (S.obj i hi))⟩
end Go.Proofs.YtnobknmhffaoeaaGreatDoor
