/- The vocabulary of these proofs: a list of blocks that the world has (HC), what a call keeps (St), and the rules for stores over them. No program is named. Rows of the call's own (Own), rows that are read (Rd), and the rules for append and the like. No program is named. The rules for stores, appends and new blocks at a step of a region that draws its order. No program is named. -/
import Derived.WalkKit
import Derived.WalkSpells
import Derived.WalkLawsBesides
import Derived.Lib.Hide
import Derived.StillTailTactics
import Derived.Deep.QuietTactic
import Derived.BigQuiet
import Derived.Maps.AppendAt
import Derived.Deep.RegionHeld3
import Derived.Deep.DeepCutAuto
import Derived.Deep.DeepFit
import Derived.Laws.Rows
import Derived.Laws.ResultCell
import Derived.Laws.CopyRow
set_option linter.unusedVariables false
set_option linter.unusedSimpArgs false
namespace Go.Proofs.YtnobknmhffaoeaaGreatDoor
open Go.RowKit

abbrev Blocks := List (Nat × Obj)
/-- Cells of type e, none frozen. -/
abbrev C (e : Nat) (cs : List Value) : Obj := .cells cs.toArray e (0, 0)
/-- The world has these blocks, each once. -/
def HC (w : World) (L : Blocks) : Prop := (L.map Prod.fst).Nodup ∧ ∀ p ∈ L, w.heap[p.1]? = some p.2
def keysOf (L : Blocks) : List Nat := L.map Prod.fst
/-- What may turn in a call that is given the blocks L in the world w: these, and what is new. -/
def FP (w : World) (L : Blocks) : Nat → Prop := fun k => k ∈ keysOf L ∨ w.heap.size ≤ k
structure St (w0 : World) (F : Nat → Prop) (w : World) (L : Blocks) : Prop where
  os : w.os = w0.os
  tape : w.tape = w0.tape
  output : w.output = w0.output
  size : w0.heap.size ≤ w.heap.size
  kept : ∀ k, k < w0.heap.size → ¬ F k → w.heap[k]? = w0.heap[k]?
  hc : HC w L
  foot : ∀ k ∈ keysOf L, F k
  fresh : ∀ k, w0.heap.size ≤ k → F k

section
variable {w0 w w1 : World} {F : Nat → Prop} {L L' A B R : Blocks}

theorem blk_lt' {w : World} {k : Nat} {o : Obj} (h : w.heap[k]? = some o) : k < w.heap.size := by
  rcases Nat.lt_or_ge k w.heap.size with h' | h'
  · exact h'
  · rw [Array.getElem?_eq_none h'] at h; cases h

theorem HC.lt (h : HC w L) : ∀ k ∈ keysOf L, k < w.heap.size := by
  intro k hk
  obtain ⟨p, hp, rfl⟩ := List.mem_map.1 hk
  exact blk_lt' (h.2 p hp)

theorem HC.perm (h : HC w L) (hp : L.Perm L') : HC w L' :=
  ⟨(hp.map Prod.fst).nodup_iff.1 h.1, fun p hm => h.2 p (hp.mem_iff.2 hm)⟩
theorem HC.left (h : HC w (A ++ B)) : HC w A := by
  refine ⟨?_, fun p hp => h.2 p (List.mem_append_left _ hp)⟩
  have := h.1; rw [List.map_append] at this; exact (List.nodup_append.1 this).1
theorem HC.right (h : HC w (A ++ B)) : HC w B := by
  refine ⟨?_, fun p hp => h.2 p (List.mem_append_right _ hp)⟩
  have := h.1; rw [List.map_append] at this; exact (List.nodup_append.1 this).2.1
theorem HC.nil (w : World) : HC w [] := ⟨by simp, by simp⟩
theorem HC.at_ (h : HC w L) (i : Nat) {k : Nat} {o : Obj} (hi : L[i]? = some (k, o)) : w.heap[k]? = some o :=
  h.2 (k, o) (List.mem_of_getElem? hi)

theorem keysOf_append (A B : Blocks) : keysOf (A ++ B) = keysOf A ++ keysOf B := by simp [keysOf]

theorem St.init (h : HC w L) : St w (FP w L) w L :=
  ⟨rfl, rfl, rfl, Nat.le_refl _, fun _ _ _ => rfl, h, fun _ hk => .inl hk, fun _ hk => .inr hk⟩
/-- A call that owns nothing of what was there. -/
theorem St.nil (w : World) : St w (FP w []) w [] := St.init (HC.nil w)

theorem St.lt (S : St w0 F w L) (i : Nat) {k : Nat} {o : Obj} (hi : L[i]? = some (k, o)) : k < w.heap.size := blk_lt' (S.hc.at_ i hi)
theorem St.cell (S : St w0 F w L) (i : Nat) {g e : Nat} {cs : List Value} (hi : L[i]? = some (g, C e cs)) (off : Nat) {v : Value} (hv : cs[off]? = some v) :
    w.cell? ⟨g, off, none⟩ = some v := by
  rw [cell_of_row w g off cs.toArray e (0, 0) (S.hc.at_ i hi)]
  simpa using hv
theorem St.frozen (S : St w0 F w L) (i : Nat) {g e : Nat} {cs : List Value} (hi : L[i]? = some (g, C e cs)) (off : Nat) : w.frozen? ⟨g, off, none⟩ = false := by
  simp [World.frozen?, S.hc.at_ i hi]
theorem St.perm (S : St w0 F w L) (hp : L.Perm L') : St w0 F w L' :=
  { S with hc := S.hc.perm hp, foot := fun k hk => S.foot k (by
      obtain ⟨p, hp', rfl⟩ := List.mem_map.1 hk
      exact List.mem_map.2 ⟨p, hp.mem_iff.2 hp', rfl⟩) }
theorem St.sub (S : St w0 F w L) (hc : HC w L') (hf : ∀ k ∈ keysOf L', F k) : St w0 F w L' := { S with hc := hc, foot := hf }
theorem St.left (S : St w0 F w (A ++ B)) : St w0 F w A := S.sub S.hc.left (fun k hk => S.foot k (by rw [keysOf_append]; exact List.mem_append_left _ hk))
theorem St.right (S : St w0 F w (A ++ B)) : St w0 F w B := S.sub S.hc.right (fun k hk => S.foot k (by rw [keysOf_append]; exact List.mem_append_right _ hk))
theorem St.swap (S : St w0 F w (A ++ B)) : St w0 F w (B ++ A) := S.perm List.perm_append_comm
theorem St.drew (S : St w0 F w L) : St w0 F w.drew L := ⟨S.os, S.tape, S.output, S.size, S.kept, S.hc, S.foot, S.fresh⟩
theorem St.drewN (S : St w0 F w L) (n : Nat) : St w0 F (w.drewN n) L := ⟨S.os, S.tape, S.output, S.size, S.kept, S.hc, S.foot, S.fresh⟩
theorem St.new_ne (S : St w0 F w L) : w.heap.size ∉ keysOf L := fun h => Nat.lt_irrefl _ (S.hc.lt _ h)
theorem St.alloc (S : St w0 F w L) (o : Obj) : St w0 F (w.alloc o) ((w.heap.size, o) :: L) := by
  refine ⟨S.os, S.tape, S.output, by simp; have := S.size; omega, fun k hk hF => ?_, ⟨?_, ?_⟩, ?_, S.fresh⟩
  · rw [Below.heap_alloc w o k (by have := S.size; omega)]; exact S.kept k hk hF
  · rw [List.map_cons, List.nodup_cons]; exact ⟨S.new_ne, S.hc.1⟩
  · intro p hp
    rcases List.mem_cons.1 hp with rfl | hp
    · exact heap_alloc_new w o
    · have hb := S.hc.2 p hp
      rw [Below.heap_alloc w o p.1 (blk_lt' hb)]; exact hb
  · intro k hk
    rcases List.mem_cons.1 hk with rfl | hk
    · exact S.fresh _ S.size
    · exact S.foot k hk
/-- Nothing but this block turned. -/
structure Turn (w w' : World) (g : Nat) (o : Obj) : Prop where
  os : w'.os = w.os
  tape : w'.tape = w.tape
  output : w'.output = w.output
  size : w'.heap.size = w.heap.size
  same : w'.heap[g]? = some o
  other : ∀ k, k ≠ g → w'.heap[k]? = w.heap[k]?
theorem keysOf_set (L : Blocks) (i g : Nat) (o o' : Obj) (hi : L[i]? = some (g, o)) : keysOf (L.set i (g, o')) = keysOf L := by
  unfold keysOf
  apply List.ext_getElem?
  intro j
  rw [List.map_set]
  by_cases hj : i = j
  · subst hj
    have hlt : i < L.length := (List.getElem?_eq_some_iff.1 hi).1
    rw [List.getElem?_set_self (by simpa using hlt), List.getElem?_map, hi]; rfl
  · rw [List.getElem?_set_ne hj]
theorem St.turn (S : St w0 F w L) (i : Nat) {g : Nat} {o o' : Obj} (hi : L[i]? = some (g, o)) (T : Turn w w1 g o') : St w0 F w1 (L.set i (g, o')) := by
  have hg : g ∈ keysOf L := List.mem_map.2 ⟨_, List.mem_of_getElem? hi, rfl⟩
  refine ⟨T.os.trans S.os, T.tape.trans S.tape, T.output.trans S.output, by rw [T.size]; exact S.size, fun k hk hF => ?_, ⟨?_, ?_⟩, ?_, S.fresh⟩
  · rw [T.other k (fun e => hF (e ▸ S.foot g hg))]; exact S.kept k hk hF
  · show (keysOf _).Nodup; rw [keysOf_set L i g o o' hi]; exact S.hc.1
  · intro p hp
    obtain ⟨j, hj⟩ := List.getElem?_of_mem hp
    by_cases hij : i = j
    · subst hij
      have hlt : i < L.length := (List.getElem?_eq_some_iff.1 hi).1
      rw [List.getElem?_set_self hlt] at hj
      injection hj with hj; subst hj; exact T.same
    · rw [List.getElem?_set_ne hij] at hj
      have hne : p.1 ≠ g := by
        intro e
        have hn := S.hc.1
        have h1 : (L.map Prod.fst)[i]? = some g := by rw [List.getElem?_map, hi]; rfl
        have h2 : (L.map Prod.fst)[j]? = some g := by rw [List.getElem?_map, hj, ← e]; rfl
        obtain ⟨a, ha⟩ := List.getElem?_eq_some_iff.1 h1
        obtain ⟨b, hb⟩ := List.getElem?_eq_some_iff.1 h2
        exact hij ((List.getElem_inj (h₀ := a) (h₁ := b) hn).1 (ha.trans hb.symm))
      rw [T.other _ hne]
      exact S.hc.2 p (List.mem_of_getElem? hj)
  · intro k hk; rw [keysOf_set L i g o o' hi] at hk; exact S.foot k hk

/-- A callee that was given P of what is owned, and left P'. -/
theorem St.call {P P' : Blocks} (S : St w0 F w (P ++ R)) (S1 : St w (FP w P) w1 P') : St w0 F w1 (P' ++ R) := by
  have hR : ∀ k ∈ keysOf R, k < w.heap.size ∧ ¬ FP w P k := fun k hk => by
    have h1 : k < w.heap.size := S.hc.lt k (by rw [keysOf_append]; exact List.mem_append_right _ hk)
    refine ⟨h1, fun h => ?_⟩
    rcases h with h | h
    · have hn := S.hc.1
      rw [List.map_append] at hn
      exact (List.nodup_append.1 hn).2.2 k h k hk rfl
    · omega
  refine ⟨S1.os.trans S.os, S1.tape.trans S.tape, S1.output.trans S.output, Nat.le_trans S.size S1.size, fun k hk hF => ?_, ⟨?_, ?_⟩, ?_, S.fresh⟩
  · rw [S1.kept k (Nat.lt_of_lt_of_le hk S.size) (fun h => ?_)]; exact S.kept k hk hF
    rcases h with h | h
    · exact hF (S.foot k (by rw [keysOf_append]; exact List.mem_append_left _ h))
    · have := S.size; omega
  · rw [List.map_append]
    refine List.nodup_append.2 ⟨S1.hc.1, S.hc.right.1, fun a ha b hb e => ?_⟩
    subst e
    exact (hR a hb).2 (S1.foot a ha)
  · intro p hp
    rcases List.mem_append.1 hp with hp | hp
    · exact S1.hc.2 p hp
    · have hk : p.1 ∈ keysOf R := List.mem_map.2 ⟨p, hp, rfl⟩
      rw [S1.kept _ (hR _ hk).1 (hR _ hk).2]
      exact S.hc.2 p (List.mem_append_right _ hp)
  · intro k hk
    rw [keysOf_append] at hk
    rcases List.mem_append.1 hk with hk | hk
    · rcases S1.foot k hk with h | h
      · exact S.foot k (by rw [keysOf_append]; exact List.mem_append_left _ h)
      · exact S.fresh k (Nat.le_trans S.size h)
    · exact S.foot k (by rw [keysOf_append]; exact List.mem_append_right _ hk)
/-- The callee was given all. -/
theorem St.seq {P P' : Blocks} (S : St w0 F w P) (S1 : St w (FP w P) w1 P') : St w0 F w1 P' := by
  have h := St.call (R := []) (by rw [List.append_nil]; exact S) S1
  rwa [List.append_nil] at h
/-- A callee that owns nothing and made P'. -/
theorem St.pure {P' : Blocks} (S : St w0 F w R) (S1 : St w (FP w []) w1 P') : St w0 F w1 (P' ++ R) := St.call (P := []) S S1
theorem St.below (S : St w0 F w R) (hb : Below w.heap.size w w1) : St w0 F w1 R :=
  St.pure (P' := []) S ⟨hb.os, hb.tape, hb.output, hb.size, fun k hk _ => hb.block k hk, HC.nil _, by simp [keysOf], fun _ hk => .inr hk⟩
theorem St.below' (S : St w0 (FP w0 []) w L) : Below w0.heap.size w0 w :=
  ⟨S.os, S.tape, S.output, S.size, fun k hk => S.kept k hk (fun h => by
    rcases h with h | h
    · simp [keysOf] at h
    · omega)⟩
theorem HC.st (h : HC w L) : St w (FP w L) w L := St.init h
end

theorem ret_int {k : IntKind} {a b : Int} (h : a = b) : Ending.returned (.int k a) = .returned (.int k b) := by rw [h]
theorem quiet_eq {P : Program} {f : FuncId} {args : Array Value} {w : World} {n : Nat} {v : Value}
    (h : Calls P f args (w.drewN n) fun e w' => e = .returned v ∧ w.drewN n = w') : Calls P f args (w.drewN n) fun e w'' => e = .returned v ∧ ∃ m, w'' = w.drewN m :=
  Calls.quiet_of_same (h.mono fun _ _ ⟨a, b⟩ => ⟨a, b.symm⟩)
theorem HC.drewN {w : World} {L : Blocks} (h : HC w L) (n : Nat) : HC (w.drewN n) L := h
/-! ### stores -/
/-- The cells behind a store of vs from off on. -/
def put (cs : List Value) (off : Nat) (vs : List Value) : List Value := cs.take off ++ vs ++ cs.drop (off + vs.length)
theorem put_one (cs : List Value) (off : Nat) (v : Value) (h : off < cs.length) : put cs off [v] = cs.set off v := by
  unfold put
  rw [List.set_eq_take_append_cons_drop, if_pos h]; simp
section
variable {P : Program}
theorem run_storeVar_turn (w : World) (t g off e : Nat) (cs : List Value) (x : Value) (hsz : (sizeOf t).run P w = .ok x.cells.size w) (hb : w.heap[g]? = some (C e cs))
    (hfit : off + x.cells.size ≤ cs.length) (h1 : ∀ u ∈ x.cells.toList, u.oneCell' = true) :
    ∃ w', (Instr.storeAt t (.pointer (some ⟨g, off, none⟩)) x).run P w = .ok () w' ∧ Turn w w' g (C e (put cs off x.cells.toList)) := by
  have hs := run_storeCells_at P g off e x.cells.toList 0 cs.toArray w hb (by simpa using hfit) h1
  refine ⟨w.setRow g (List.take (off + 0) cs.toArray.toList ++ x.cells.toList ++ List.drop (off + 0 + x.cells.toList.length) cs.toArray.toList).toArray, ?_, ?_⟩
  · simp only [Instr.storeAt, Instr.sureAddr, storeVar, Sem.run_bind, Sem.run_pure, Result.andThen_ok, hsz]
    simp only [ne_eq, not_true_eq_false, if_false]
    exact hs
  · have hlt := blk_lt' hb
    refine ⟨rfl, rfl, rfl, by simp [World.setRow], ?_, fun k hk => ?_⟩
    · simp [World.setRow, Array.getElem?_modify, hb, C, put]
    · simp only [World.setRow, Array.getElem?_modify]
      rw [if_neg (fun e => hk e.symm)]
theorem wpl_store {w0 w : World} {F : Nat → Prop} {L : Blocks} {ops : Array Oper} {rest : List Oper} {o : Oper} {a : Act} {Q : Exit → Act → World → Prop} (hgd : o.guard = none)
    (t : Nat) (ad x : Operand) (ho : o.op = .store t ad x) (g off : Nat) (hA : a.eval ad = .pointer (some ⟨g, off, none⟩)) (v : Value) (hx : a.eval x = v)
    (hsz : ∀ w, (sizeOf t).run P w = .ok v.cells.size w) (S : St w0 F w L) (i e : Nat) (cs : List Value) (hi : L[i]? = some (g, C e cs))
    (hfit : off + v.cells.size ≤ cs.length) (h1 : ∀ u ∈ v.cells.toList, u.oneCell' = true)
    (K : ∀ w', St w0 F w' (L.set i (g, C e (put cs off v.cells.toList))) → Turn w w' g (C e (put cs off v.cells.toList)) → wpList P ops Q rest (a.put o.dst undef) w') : wpList P ops Q (o :: rest) a w := by
  refine wpList_plain hgd fun K' hK => ?_
  obtain ⟨w', hr, hT⟩ := run_storeVar_turn (P := P) w t g off e cs v (hsz w) (S.hc.at_ i hi) hfit h1
  unfold Oper.wp execOp
  simp only [ho, hA, hx, Sem.run_bind, hr, Result.andThen_ok, Sem.run_pure, Oper.upon_skip]
  exact hK _ _ (K w' (S.turn i hi hT) hT)
theorem cells_one {v : Value} (h : v.oneCell' = true) : v.cells = #[v] := by cases v <;> first | rfl | simp [Value.oneCell'] at h
/-- A store of one cell. -/
theorem wpl_set {w0 w : World} {F : Nat → Prop} {L : Blocks} {ops : Array Oper} {rest : List Oper} {o : Oper} {a : Act} {Q : Exit → Act → World → Prop} (hgd : o.guard = none)
    (t : Nat) (ad x : Operand) (ho : o.op = .store t ad x) (g off : Nat) (hA : a.eval ad = .pointer (some ⟨g, off, none⟩)) (v : Value) (hx : a.eval x = v)
    (hsz : ∀ w, (sizeOf t).run P w = .ok 1 w) (S : St w0 F w L) (i e : Nat) (cs : List Value) (hi : L[i]? = some (g, C e cs))
    (hfit : off < cs.length) (h1 : v.oneCell' = true)
    (K : ∀ w', St w0 F w' (L.set i (g, C e (cs.set off v))) → wpList P ops Q rest (a.put o.dst undef) w') : wpList P ops Q (o :: rest) a w := by
  have hc := cells_one h1
  refine wpl_store hgd t ad x ho g off hA v hx (fun w => by rw [hc]; exact hsz w) S i e cs hi (by rw [hc]; exact hfit) (by rw [hc]; simpa using h1) (fun w' S' _ => K w' ?_)
  rw [hc] at S'
  have : put cs off (#[v] : Array Value).toList = cs.set off v := put_one cs off v hfit
  rw [this] at S'
  exact S'
end

/-! ### new blocks -/
section
variable {P : Program} {w0 w : World} {F : Nat → Prop} {L : Blocks} {ops : Array Oper} {rest : List Oper} {o : Oper} {a : Act} {Q : Exit → Act → World → Prop}
theorem St.ge (S : St w0 F w L) : w0.heap.size ≤ w.heap.size := S.size
theorem wpl_alloc (S : St w0 F w L) (hgd : o.guard = none) (t : Nat) (ho : o.op = .alloc t) (z : Value) (hz : ∀ w, (zeroValue t).run P w = .ok z w)
    (K : ∀ g w', w.heap.size ≤ g → St w0 F w' ((g, C t z.cells.toList) :: L) → wpList P ops Q rest (a.put o.dst (.pointer (some ⟨g, 0, none⟩))) w') : wpList P ops Q (o :: rest) a w := by
  refine wpList_plain hgd fun K' hK => ?_
  have hr : (Instr.alloc t true (.tuple #[])).run P w = .ok (.pointer (some ⟨w.heap.size, 0, none⟩)) (w.alloc (.cells z.cells t)) := by
    simp only [Instr.alloc, Sem.run_bind, hz w, Result.andThen_ok, newVar, newRow, run_newObj_alloc, Sem.run_pure]
  unfold Oper.wp execOp
  simp only [ho, Sem.run_bind, hr, Result.andThen_ok, Sem.run_pure, Oper.upon_value]
  exact hK _ _ (K _ _ (Nat.le_refl _) (by have := S.alloc (.cells z.cells t); simpa [C] using this))
theorem wpl_box (S : St w0 F w L) (hgd : o.guard = none) (t : Nat) (x : Operand) (ho : o.op = .box t x) (v : Value) (hv : a.eval x = v)
    (K : ∀ g w', w.heap.size ≤ g → St w0 F w' ((g, C t v.cells.toList) :: L) → wpList P ops Q rest (a.put o.dst (.pointer (some ⟨g, 0, none⟩))) w') : wpList P ops Q (o :: rest) a w := by
  refine wpList_plain hgd fun K' hK => ?_
  have hr : (Instr.box t v).run P w = .ok (.pointer (some ⟨w.heap.size, 0, none⟩)) (w.alloc (.cells v.cells t)) := by
    simp only [Instr.box, Sem.run_bind, Result.andThen_ok, newVar, newRow, run_newObj_alloc, Sem.run_pure]
  unfold Oper.wp execOp
  simp only [ho, hv, Sem.run_bind, hr, Result.andThen_ok, Sem.run_pure, Oper.upon_value]
  exact hK _ _ (K _ _ (Nat.le_refl _) (by have := S.alloc (.cells v.cells t); simpa [C] using this))
theorem madeCells_flat (z : List Value) (hz : 0 < z.length) : ∀ n, madeCells z.toArray (n * z.length) = (List.flatten (List.replicate n z)).toArray := by
  intro n
  apply Array.ext'
  apply List.ext_getElem?
  intro k
  have hlen : (List.replicate n z).flatten.length = n * z.length := by simp
  by_cases hk : k < n * z.length
  · have h1 : (madeCells z.toArray (n * z.length)).toList[k]? = some (z[k % z.length]'(Nat.mod_lt _ hz)) := by
      have hm := Nat.mod_lt k hz
      simp [madeCells, Array.getElem?_range, hk, hm]
    rw [h1]
    have h2 : ∀ m k, k < m * z.length → ((List.replicate m z).flatten)[k]? = some (z[k % z.length]'(Nat.mod_lt _ hz)) := by
      intro m
      induction m with
      | zero => intro k hk; simp at hk
      | succ m ih =>
        intro k hk
        rw [List.replicate_succ, List.flatten_cons]
        by_cases hlt : k < z.length
        · rw [List.getElem?_append_left hlt]
          simp [Nat.mod_eq_of_lt hlt, hlt]
        · rw [List.getElem?_append_right (by omega), ih (k - z.length) (by rw [Nat.add_mul] at hk; omega)]
          congr 2
          exact (Nat.mod_eq_sub_mod (by omega)).symm
    simpa using (h2 n k hk).symm
  · rw [List.getElem?_eq_none (by simp [madeCells]; omega), List.getElem?_eq_none (by simp; omega)]
theorem wpl_make (S : St w0 F w L) (hgd : o.guard = none) (t : Nat) (x y : Operand) (ho : o.op = .makeSlice t x y) (e : Nat) (zc : List Value) (z : Value) (sz by_ : Nat) (ht : P.underlying t = some (.slice e))
    (hinfo : (P.info? e).map (fun i => (i.zero, i.size, i.bytes)) = some (some z, sz, by_)) (hzc : z.cells = zc.toArray ∧ zc.length = sz ∧ 0 < sz)
    (kl kc : IntKind) (l c : Int) (hx : a.eval x = .int kl l) (hy : a.eval y = .int kc c) (hb4 : 0 ≤ l ∧ l ≤ c ∧ c ≤ 4294967296 ∧ by_ ≤ 65536)
    (K : ∀ g w', w.heap.size ≤ g → St w0 F w' ((g, C e (List.replicate c.toNat zc).flatten) :: L) → wpList P ops Q rest (a.put o.dst (.slice (some ⟨g, 0, none⟩) l.toNat c.toNat)) w') : wpList P ops Q (o :: rest) a w := by
  refine wpList_plain hgd fun K' hK => ?_
  obtain ⟨i, hi, hz0, hz1, hz2⟩ := info_parts hinfo
  obtain ⟨h0, hlc, hc, hby⟩ := hb4
  obtain ⟨hzc, hsz, hpos⟩ := hzc
  have hbound : (i.bytes : Int) * c ≤ 281474976710656 := by
    rw [hz2]
    have h1 : (by_ : Int) * c ≤ 65536 * c := Int.mul_le_mul_of_nonneg_right (by omega) (by omega)
    omega
  have hr := run_make (P := P) w t e i z ht hi hz0 kl kc l c h0 hlc hbound (by omega)
  have hcells : madeCells z.cells (c.toNat * i.size) = (List.replicate c.toNat zc).flatten.toArray := by
    rw [hzc, hz1, ← hsz]; exact madeCells_flat zc (by omega) _
  rw [hcells] at hr
  unfold Oper.wp execOp
  simp only [ho, hx, hy, Sem.run_bind, hr, Result.andThen_ok, Sem.run_pure, Oper.upon_value]
  exact hK _ _ (K _ _ (Nat.le_refl _) (S.alloc _))
end

/-! ### rows of elements, each of sz cells -/
section
variable {α : Type} {enc : α → List Value} {sz : Nat}
theorem fm_length (h : ∀ x, (enc x).length = sz) (l : List α) : (l.flatMap enc).length = l.length * sz := by
  induction l with
  | nil => simp
  | cons a l ih => simp [ih, h, Nat.add_mul]; omega
theorem fm_get (h : ∀ x, (enc x).length = sz) : ∀ (l : List α) (i j : Nat) (x : α), l[i]? = some x → j < sz → (l.flatMap enc)[i * sz + j]? = (enc x)[j]?
  | [], i, j, x, hx, _ => by simp at hx
  | a :: l, 0, j, x, hx, hj => by
    simp at hx; subst hx
    rw [List.flatMap_cons, Nat.zero_mul, Nat.zero_add, List.getElem?_append_left (by rw [h]; exact hj)]
  | a :: l, i + 1, j, x, hx, hj => by
    rw [List.flatMap_cons, List.getElem?_append_right (by rw [h, Nat.add_mul]; omega), h, show (i + 1) * sz + j - sz = i * sz + j by rw [Nat.add_mul]; omega]
    exact fm_get h l i j x (by simpa using hx) hj
theorem fm_get0 (h : ∀ x, (enc x).length = sz) (l : List α) (i : Nat) (x : α) (hx : l[i]? = some x) (hs : 0 < sz) : (l.flatMap enc)[i * sz]? = (enc x)[0]? := by
  have := fm_get h l i 0 x hx hs
  simpa using this
theorem fm_put (h : ∀ x, (enc x).length = sz) : ∀ (l : List α) (i : Nat) (x : α), i < l.length → put (l.flatMap enc) (i * sz) (enc x) = (l.set i x).flatMap enc
  | [], i, x, hi => by simp at hi
  | a :: l, 0, x, _ => by
    have h1 : (enc x).length = (enc a).length := by rw [h, h]
    simp [put, h1]
  | a :: l, i + 1, x, hi => by
    have ih := fm_put h l i x (by simpa using hi)
    unfold put at ih ⊢
    rw [List.set_cons_succ, List.flatMap_cons, List.flatMap_cons, ← ih, h]
    have e1 : (i + 1) * sz = (enc a).length + i * sz := by rw [h, Nat.add_mul]; omega
    rw [h] at ih
    rw [e1, List.take_length_add_append, Nat.add_assoc, List.drop_length_add_append]
    simp [List.append_assoc, h]
theorem put_get (M vs : List Value) (o k : Nat) (hf : o + vs.length ≤ M.length) : (put M o vs)[k]? = if k < o then M[k]? else if k < o + vs.length then vs[k - o]? else M[k]? := by
  unfold put
  by_cases h1 : k < o
  · rw [if_pos h1, List.append_assoc, List.getElem?_append_left (by rw [List.length_take]; omega), List.getElem?_take_of_lt h1]
  · rw [if_neg h1, List.append_assoc, List.getElem?_append_right (by rw [List.length_take]; omega)]
    have e : k - (List.take o M).length = k - o := by rw [List.length_take]; omega
    rw [e]
    by_cases h2 : k < o + vs.length
    · rw [if_pos h2, List.getElem?_append_left (by omega)]
    · rw [if_neg h2, List.getElem?_append_right (by omega), List.getElem?_drop]
      congr 1; omega
theorem fm_set (h : ∀ x, (enc x).length = sz) (l : List α) (i j : Nat) (x x' : α) (v : Value) (hx : l[i]? = some x) (hj : j < sz) (he : (enc x).set j v = enc x') :
    (l.flatMap enc).set (i * sz + j) v = (l.set i x').flatMap enc := by
  have hi : i < l.length := (List.getElem?_eq_some_iff.1 hx).1
  rw [← fm_put h l i x' hi, ← he]
  have hl : (l.flatMap enc).length = l.length * sz := fm_length h l
  have hle : i * sz + sz ≤ l.length * sz := by
    have := Nat.mul_le_mul_right sz hi
    rw [Nat.succ_mul] at this; exact this
  have hg := fun q (hq : q < sz) => fm_get h l i q x hx hq
  have hel := h x
  generalize l.flatMap enc = M at *
  apply List.ext_getElem?
  intro k
  rw [put_get M _ _ _ (by rw [List.length_set]; omega), List.length_set, hel]
  by_cases h1 : k < i * sz
  · rw [List.getElem?_set_ne (by omega), if_pos h1]
  · rw [if_neg h1]
    by_cases h2 : k < i * sz + sz
    · rw [if_pos h2]
      obtain ⟨q, rfl⟩ : ∃ q, k = i * sz + q := ⟨k - i * sz, by omega⟩
      rw [show i * sz + q - i * sz = q by omega]
      by_cases hq : j = q
      · subst hq
        rw [List.getElem?_set_self (by omega), List.getElem?_set_self (by omega)]
      · rw [List.getElem?_set_ne (by omega), List.getElem?_set_ne hq]
        exact hg q (by omega)
    · rw [if_neg h2, List.getElem?_set_ne (by omega)]
end
end Go.Proofs.YtnobknmhffaoeaaGreatDoor
namespace Go.Proofs.YtnobknmhffaoeaaGreatDoor
open Go.RowKit
/-- How elements lie: each in sz cells. -/
structure Lay (α : Type) where
  enc : α → List Value
  sz : Nat
  len : ∀ x, (enc x).length = sz
  pos : 0 < sz
  one : ∀ x, ∀ u ∈ enc x, u.oneCell' = true
section
variable {α : Type} {E : Lay α} {e : Nat} {w0 w w1 : World} {F : Nat → Prop} {v v' : Value} {xs ys : List α} {L A B R : Blocks}
def Lay.all (E : Lay α) (xs : List α) : List Value := xs.flatMap E.enc
theorem Lay.all_len (E : Lay α) (xs : List α) : (E.all xs).length = xs.length * E.sz := fm_length E.len xs
theorem Lay.all_one (E : Lay α) (xs : List α) : ∀ u ∈ E.all xs, u.oneCell' = true := by
  intro u hu
  obtain ⟨x, _, h⟩ := List.mem_flatMap.1 hu
  exact E.one x u h
theorem Lay.all_append (E : Lay α) (xs ys : List α) : E.all (xs ++ ys) = E.all xs ++ E.all ys := by simp [Lay.all]
/-- A slice value that is the call's own: nil, or a block's front. -/
def Own (E : Lay α) (e : Nat) (v : Value) (xs : List α) (L : Blocks) : Prop :=
  (v = .slice none 0 0 ∧ xs = [] ∧ L = []) ∨
  ∃ b cap spare, v = .slice (some ⟨b, 0, none⟩) xs.length cap ∧ L = [(b, C e (E.all xs ++ spare))] ∧ xs.length ≤ cap ∧ cap ≤ maxLen ∧ (E.all xs ++ spare).length = cap * E.sz
/-- A slice value that reads as a list. -/
def Rd (E : Lay α) (w : World) (v : Value) (xs : List α) : Prop :=
  ∃ A c, v = .slice A xs.length c ∧ xs.length ≤ c ∧ c ≤ maxLen ∧ ∀ k u, (E.all xs)[k]? = some u → ∃ b off, A = some ⟨b, off, none⟩ ∧ w.cell? ⟨b, off + k, none⟩ = some u
theorem Own.nil (E : Lay α) (e : Nat) : Own E e (.slice none 0 0) [] [] := .inl ⟨rfl, rfl, rfl⟩
theorem Own.slice (O : Own E e v xs L) : ∃ A c, v = .slice A xs.length c ∧ xs.length ≤ c ∧ c ≤ maxLen := by
  rcases O with ⟨rfl, rfl, rfl⟩ | ⟨b, cap, spare, rfl, rfl, h1, h2, h3⟩
  · exact ⟨none, 0, rfl, Nat.le_refl _, Nat.zero_le _⟩
  · exact ⟨_, _, rfl, h1, h2⟩
theorem Own.form (O : Own E e v xs L) (h : xs ≠ []) : ∃ b cap spare, v = .slice (some ⟨b, 0, none⟩) xs.length cap ∧ L = [(b, C e (E.all xs ++ spare))] ∧ xs.length ≤ cap ∧ cap ≤ maxLen ∧ (E.all xs ++ spare).length = cap * E.sz := by
  rcases O with ⟨rfl, rfl, rfl⟩ | h'
  · exact absurd rfl h
  · exact h'
theorem Own.rd (O : Own E e v xs L) (H : HC w L) : Rd E w v xs := by
  rcases O with ⟨rfl, rfl, rfl⟩ | ⟨b, cap, spare, rfl, rfl, h1, h2, h3⟩
  · exact ⟨none, 0, rfl, Nat.le_refl _, Nat.zero_le _, fun k u hk => by simp [Lay.all] at hk⟩
  · refine ⟨_, _, rfl, h1, h2, fun k u hk => ⟨b, 0, rfl, ?_⟩⟩
    have hb := H.at_ 0 (k := b) (o := C e (E.all xs ++ spare)) rfl
    rw [cell_of_row w b (0 + k) _ e (0, 0) hb]
    have : (E.all xs ++ spare)[0 + k]? = some u := by
      rw [Nat.zero_add, List.getElem?_append_left (List.getElem?_eq_some_iff.1 hk).1]; exact hk
    simpa using this
theorem Rd.keep (h : Rd E w v xs) (hk : ∀ b, v.ownBlock = some b → w1.heap[b]? = w.heap[b]?) : Rd E w1 v xs := by
  obtain ⟨A, c, rfl, h1, h2, h3⟩ := h
  refine ⟨A, c, rfl, h1, h2, fun k u hu => ?_⟩
  obtain ⟨b, off, rfl, hc⟩ := h3 k u hu
  exact ⟨b, off, rfl, (World.cell?_of_block (w := w) (w' := w1) (a := ⟨b, off + k, none⟩) (hk b rfl)).trans hc⟩
theorem Rd.nil (E : Lay α) (w : World) : Rd E w (.slice none 0 0) [] := (Own.nil E 0).rd (HC.nil w)
theorem Rd.slice (h : Rd E w v xs) : ∃ A c, v = .slice A xs.length c ∧ xs.length ≤ c ∧ c ≤ maxLen := by
  obtain ⟨A, c, rfl, h1, h2, _⟩ := h; exact ⟨A, c, rfl, h1, h2⟩
/-- A cell of an element: field j of element i. -/
theorem Lay.at_ (E : Lay α) {i j : Nat} {x : α} {u : Value} (hi : xs[i]? = some x) (hj : (E.enc x)[j]? = some u) : (E.all xs)[i * E.sz + j]? = some u := by
  have hlt : j < E.sz := by rw [← E.len x]; exact (List.getElem?_eq_some_iff.1 hj).1
  exact (fm_get E.len xs i j x hi hlt).trans hj

theorem Own.owns (O : Own E e v xs L) (H : HC w L) : w.ownsRow 0 e E.sz v xs.length (E.all xs) := by
  refine ⟨E.all_len xs, ?_⟩
  rcases O with ⟨rfl, rfl, rfl⟩ | ⟨b, cap, spare, rfl, rfl, h1, h2, h3⟩
  · exact .inl ⟨rfl, rfl⟩
  · refine .inr ⟨b, cap, (E.all xs ++ spare).toArray, rfl, Nat.zero_le _, H.at_ 0 rfl, h1, h2, by simpa using h3, ?_⟩
    rw [← E.all_len xs]
    simp
theorem Own.of_owns {n : Nat} (h : w.ownsRow 0 e E.sz v n (E.all xs)) (hn : n = xs.length) : ∃ L, Own E e v xs L ∧ HC w L ∧ ∀ k ∈ keysOf L, v.ownBlock = some k := by
  subst hn
  rcases h.2 with ⟨rfl, h0⟩ | ⟨b, cap, cur, rfl, _, hb, h1, h2, h3, h4⟩
  · have : xs = [] := List.eq_nil_of_length_eq_zero h0
    subst this
    exact ⟨[], Own.nil E e, HC.nil w, by simp [keysOf]⟩
  · have e1 : E.all xs ++ cur.toList.drop (xs.length * E.sz) = cur.toList := by rw [← h4]; exact List.take_append_drop _ _
    refine ⟨[(b, C e (E.all xs ++ cur.toList.drop (xs.length * E.sz)))], .inr ⟨b, cap, _, rfl, rfl, h1, h2, ?_⟩, ⟨by simp, ?_⟩, ?_⟩
    · rw [e1]; simpa using h3
    · intro p hp
      rw [List.mem_singleton.1 hp, e1]
      simpa [C] using hb
    · intro k hk
      simp [keysOf] at hk
      simp [Value.ownBlock, hk]
theorem Own.key (O : Own E e v xs L) : ∀ k, v.ownBlock = some k ↔ k ∈ keysOf L := by
  intro k
  rcases O with ⟨rfl, rfl, rfl⟩ | ⟨b, cap, spare, rfl, rfl, _⟩
  · simp [Value.ownBlock, keysOf]
  · simp [Value.ownBlock, keysOf, eq_comm]
/-- Behind an append (or whatever else ends in 'grownBy'): the row is the call's own still. -/
theorem St.grown {n : Nat} (S : St w0 F w (A ++ R)) (O : Own E e v xs A) (h : w1.ownsRow 0 e E.sz v' n (E.all ys)) (hn : n = ys.length) (hg : w.grownBy w1 v.ownBlock)
    (hat : v'.ownBlock = v.ownBlock ∨ v'.ownBlock = some w.heap.size) : ∃ A', Own E e v' ys A' ∧ St w0 F w1 (A' ++ R) := by
  obtain ⟨A', O', H', hk⟩ := Own.of_owns h hn
  refine ⟨A', O', S.call (P' := A') ⟨hg.os, hg.tape, hg.output, hg.size, fun k hk1 hF => ?_, H', fun k hkA => ?_, fun k hk1 => .inr hk1⟩⟩
  · refine hg.block k hk1 (fun e1 => hF (.inl ((O.key k).1 e1.symm)))
  · have h1 := hk k hkA
    rcases hat with h2 | h2
    · exact .inl ((O.key k).1 (h2 ▸ h1))
    · rw [h2] at h1; injection h1 with h1; exact .inr (by omega)
theorem St.front {x : Nat × Obj} (S : St w0 F w (x :: (A ++ R))) : St w0 F w (A ++ x :: R) := S.perm List.perm_middle.symm
theorem St.drop {x : Nat × Obj} (S : St w0 F w (A ++ x :: R)) : St w0 F w (A ++ R) := (S.perm List.perm_middle).right (A := [x])
end
section
variable {P : Program} {α : Type} {E : Lay α} {e : Nat} {w0 w : World} {F : Nat → Prop} {xs : List α} {A R : Blocks} {ops : Array Oper} {rest : List Oper} {o : Oper} {a : Act} {Q : Exit → Act → World → Prop}
/-- append of one element that was just built. -/
theorem wpl_append1 {g : Nat} {x : α} {v : Value} (S : St w0 F w ((g, C e (E.enc x)) :: (A ++ R))) (O : Own E e v xs A) (hgd : o.guard = none) (s y : Operand) (t : Nat)
    (ho : o.op = .call { callee := .builtin .append, args := #[s, y], argTypes := #[t, t] }) (z : Value) (by_ : Nat) (ht : P.underlying t = some (.slice e))
    (hinfo : (P.info? e).map (fun i => (i.zero, i.size, i.bytes)) = some (some z, E.sz, by_)) (hz : z.cells.size = E.sz) (hs : a.eval s = v) (hy : a.eval y = .slice (some ⟨g, 0, none⟩) 1 1)
    (hb : xs.length + 1 ≤ 2147483648 ∧ by_ ≤ 65536)
    (K : ∀ v' w' A', Own E e v' (xs ++ [x]) A' → St w0 F w' (A' ++ R) → wpList P ops Q rest (a.put o.dst v') w') : wpList P ops Q (o :: rest) a w := by
  obtain ⟨i, hi, hz0, hz1, hz2⟩ := info_parts hinfo
  have S' := S.front
  have hgb := S.hc.at_ 0 (k := g) (o := C e (E.enc x)) rfl
  have hbytes : (xs.length + 1) * by_ ≤ 140737488355328 := by
    have := Nat.mul_le_mul hb.1 hb.2
    omega
  have hrun := run_append_own_at (P := P) w 0 t o.type e i z E.sz by_ ht hi hz0 hz1 hz2 hz E.pos v xs.length (E.all xs) (O.owns S'.hc.left) ⟨g, 0, none⟩ 1 1 (E.enc x) (by rw [E.len, Nat.one_mul])
    (fun j u hj => by
      have : (⟨g, 0, none⟩ : Addr).add j = ⟨g, j, none⟩ := by unfold Addr.add; split <;> simp_all
      rw [this, cell_of_row w g j _ e (0, 0) hgb]; simpa using hj) (E.one x) (by simp only [maxLen]; omega) hbytes (Nat.zero_le _)
  obtain ⟨v', w', hr, h2, h3, _, h5⟩ := hrun
  have e1 : E.all xs ++ E.enc x = E.all (xs ++ [x]) := by rw [E.all_append]; simp [Lay.all]
  rw [e1] at h2
  obtain ⟨A', O', S2⟩ := S'.grown O h2 (by simp) h3 h5
  refine wpList_plain hgd fun K' hK => ?_
  unfold Oper.wp execOp
  simp only [ho, resolve, invoke, builtin, Sem.run_bind, Sem.run_pure, Result.andThen_ok, List.map_toArray, List.map_cons, List.map_nil, hs, hy, hr]
  exact hK _ _ (K v' w' A' O' S2.drop)
/-- append of a slice that reads as a list. -/
theorem wpl_append {ys : List α} {v u : Value} (S : St w0 F w (A ++ R)) (O : Own E e v xs A) (hu : Rd E w u ys) (hgd : o.guard = none) (s y : Operand) (t : Nat)
    (ho : o.op = .call { callee := .builtin .append, args := #[s, y], argTypes := #[t, t] }) (z : Value) (by_ : Nat) (ht : P.underlying t = some (.slice e))
    (hinfo : (P.info? e).map (fun i => (i.zero, i.size, i.bytes)) = some (some z, E.sz, by_)) (hz : z.cells.size = E.sz) (hs : a.eval s = v) (hy : a.eval y = u)
    (hb : xs.length + ys.length ≤ 2147483648 ∧ by_ ≤ 65536)
    (K : ∀ v' w' A', Own E e v' (xs ++ ys) A' → St w0 F w' (A' ++ R) → wpList P ops Q rest (a.put o.dst v') w') : wpList P ops Q (o :: rest) a w := by
  obtain ⟨i, hi, hz0, hz1, hz2⟩ := info_parts hinfo
  obtain ⟨U, c, rfl, hc1, hc2, hcell⟩ := hu
  have hbytes : (xs.length + ys.length) * by_ ≤ 140737488355328 := by
    have := Nat.mul_le_mul hb.1 hb.2
    omega
  refine wpList_plain hgd fun K' hK => ?_
  cases U with
  | none =>
    have hy0 : ys = [] := by
      cases ys with
      | nil => rfl
      | cons y ys =>
        have h0 : 0 < (E.all (y :: ys)).length := by rw [E.all_len]; exact Nat.mul_pos (by simp) E.pos
        obtain ⟨b, off, h, _⟩ := hcell 0 _ (List.getElem?_eq_getElem h0)
        cases h
    subst hy0
    have hr : (Builtin.append_ #[t, t] o.type #[v, .slice none ([] : List α).length c]).run P w = .ok v w := by
      rcases (O.owns S.hc.left).2 with ⟨rfl, h0⟩ | ⟨g, cap, cur, rfl, _, _, hnc, _⟩
      · simp [Builtin.append_, run_underlying ht, sizeOf, typeInfo, hi, Builtin.lenOf, Builtin.firstCells]
      · simp [Builtin.append_, run_underlying ht, sizeOf, typeInfo, hi, Builtin.lenOf, Builtin.firstCells, hnc, storeCells]
    unfold Oper.wp execOp
    simp only [ho, resolve, invoke, builtin, Sem.run_bind, Sem.run_pure, Result.andThen_ok, List.map_toArray, List.map_cons, List.map_nil, hs, hy, hr]
    exact hK _ _ (K v w A (by rw [List.append_nil]; exact O) S)
  | some ad =>
    have hcell' : ∀ j u, (E.all ys)[j]? = some u → w.cell? (ad.add j) = some u := fun j u hj => by
      obtain ⟨b, off, h, hc⟩ := hcell j u hj
      injection h with h; subst h
      have : (⟨b, off, none⟩ : Addr).add j = ⟨b, off + j, none⟩ := by unfold Addr.add; split <;> simp_all
      rw [this]; exact hc
    obtain ⟨v', w', hr, h2, h3, _, h5⟩ := run_append_own_at (P := P) w 0 t o.type e i z E.sz by_ ht hi hz0 hz1 hz2 hz E.pos v xs.length (E.all xs) (O.owns S.hc.left) ad ys.length c (E.all ys) (E.all_len ys)
      hcell' (E.all_one ys) (by simp only [maxLen]; omega) hbytes (Nat.zero_le _)
    rw [← E.all_append] at h2
    obtain ⟨A', O', S2⟩ := S.grown O h2 (by simp) h3 h5
    unfold Oper.wp execOp
    simp only [ho, resolve, invoke, builtin, Sem.run_bind, Sem.run_pure, Result.andThen_ok, List.map_toArray, List.map_cons, List.map_nil, hs, hy, hr]
    exact hK _ _ (K v' w' A' O' S2)
end
/-! ### the kinds of elements -/
def eInt (k : IntKind) : Lay Int := ⟨fun x => [.int k x], 1, fun _ => rfl, by omega, fun x u hu => by simp at hu; subst hu; rfl⟩
def eNat (k : IntKind) : Lay Nat := ⟨fun x => [.int k x], 1, fun _ => rfl, by omega, fun x u hu => by simp at hu; subst hu; rfl⟩
def eStr : Lay ByteArray := ⟨fun x => [.string x], 1, fun _ => rfl, by omega, fun x u hu => by simp at hu; subst hu; rfl⟩
def eBool : Lay Bool := ⟨fun x => [.bool x], 1, fun _ => rfl, by omega, fun x u hu => by simp at hu; subst hu; rfl⟩
def eByte : Lay UInt8 := ⟨fun x => [.int .u8 x.toNat], 1, fun _ => rfl, by omega, fun x u hu => by simp at hu; subst hu; rfl⟩
structure Pr where
  key : ByteArray
  val : ByteArray
deriving Inhabited, DecidableEq
structure Ms where
  key : ByteArray
  del : Bool
  val : ByteArray
deriving Inhabited, DecidableEq
def ePr : Lay Pr := ⟨fun x => [.string x.key, .string x.val], 2, fun _ => rfl, by omega, fun x u hu => by simp at hu; rcases hu with rfl | rfl <;> rfl⟩
def eMs : Lay Ms := ⟨fun x => [.string x.key, .bool x.del, .string x.val], 3, fun _ => rfl, by omega, fun x u hu => by simp at hu; rcases hu with rfl | rfl | rfl <;> rfl⟩
end Go.Proofs.YtnobknmhffaoeaaGreatDoor
namespace Go.Proofs.YtnobknmhffaoeaaGreatDoor
open Go.RowKit
theorem ret_bool {a b : Bool} (h : a = b) : Ending.returned (.bool a) = .returned (.bool b) := by rw [h]
theorem mulb {a b A B : Int} (h0 : 0 ≤ a) (h1 : a ≤ A) (h2 : 0 ≤ b) (h3 : b ≤ B) : 0 ≤ a * b ∧ a * b ≤ A * B :=
  ⟨Int.mul_nonneg h0 h2, Int.mul_le_mul h1 h3 h2 (by omega)⟩
section
variable {P : Program} {w0 w : World} {F : Nat → Prop} {L : Blocks} {ops : Array Oper} {o : Oper} {a : Act} {K : Act → World → Prop} {Q : Exit → Act → World → Prop} {E : Prop}
theorem wanted_of (hgd : o.guard = none) {X E : Prop} (h : X) : if Region.wanted o (yielded ops a.tmps) = true then X else E := by
  rw [if_pos (by simp [Region.wanted, hgd])]; exact h
theorem step_store (hgd : o.guard = none)
    (t : Nat) (ad x : Operand) (ho : o.op = .store t ad x) (g off : Nat) (hA : a.eval ad = .pointer (some ⟨g, off, none⟩)) (v : Value) (hx : a.eval x = v)
    (hsz : ∀ w, (sizeOf t).run P w = .ok v.cells.size w) (S : St w0 F w L) (i e : Nat) (cs : List Value) (hi : L[i]? = some (g, C e cs))
    (hfit : off + v.cells.size ≤ cs.length) (h1 : ∀ u ∈ v.cells.toList, u.oneCell' = true)
    (h : ∀ w', St w0 F w' (L.set i (g, C e (put cs off v.cells.toList))) → K (a.put o.dst undef) w') : if Region.wanted o (yielded ops a.tmps) = true then Oper.wp P o a w K Q else E := by
  refine wanted_of hgd ?_
  obtain ⟨w', hr, hT⟩ := run_storeVar_turn (P := P) w t g off e cs v (hsz w) (S.hc.at_ i hi) hfit h1
  unfold Oper.wp execOp
  simp only [ho, hA, hx, Sem.run_bind, hr, Result.andThen_ok, Sem.run_pure, Oper.upon_skip]
  exact h w' (S.turn i hi hT)
theorem step_set (hgd : o.guard = none)
    (t : Nat) (ad x : Operand) (ho : o.op = .store t ad x) (g off : Nat) (hA : a.eval ad = .pointer (some ⟨g, off, none⟩)) (v : Value) (hx : a.eval x = v)
    (hsz : ∀ w, (sizeOf t).run P w = .ok 1 w) (S : St w0 F w L) (i e : Nat) (cs : List Value) (hi : L[i]? = some (g, C e cs))
    (hfit : off < cs.length) (h1 : v.oneCell' = true)
    (h : ∀ w', St w0 F w' (L.set i (g, C e (cs.set off v))) → K (a.put o.dst undef) w') : if Region.wanted o (yielded ops a.tmps) = true then Oper.wp P o a w K Q else E := by
  have hc := cells_one h1
  refine step_store hgd t ad x ho g off hA v hx (fun w => by rw [hc]; exact hsz w) S i e cs hi (by rw [hc]; exact hfit) (by rw [hc]; simpa using h1) (fun w' S' => h w' ?_)
  rw [hc] at S'
  have : put cs off (#[v] : Array Value).toList = cs.set off v := put_one cs off v hfit
  rw [this] at S'
  exact S'
end
theorem turn_setCell {w : World} {g e off : Nat} {cs : List Value} (hb : w.heap[g]? = some (C e cs)) (v : Value) : Turn w (w.setCell ⟨g, off, none⟩ v) g (C e (cs.set off v)) := by
  refine ⟨rfl, rfl, rfl, by simp [World.setCell], ?_, fun k hk => Below.heap_setCell w ⟨g, off, none⟩ v k hk⟩
  simp [World.setCell, Array.getElem?_modify, hb, C]
/-- Behind a store of one cell that the walk has carried out by itself. -/
theorem St.setCell {w0 w : World} {F : Nat → Prop} {L : Blocks} (S : St w0 F w L) (i : Nat) {g e : Nat} {cs : List Value} (hi : L[i]? = some (g, C e cs)) (off : Nat) (v : Value) :
    St w0 F (w.setCell ⟨g, off, none⟩ v) (L.set i (g, C e (cs.set off v))) := S.turn i hi (turn_setCell (S.hc.at_ i hi) v)
section
variable {P : Program} {α : Type} {X : Lay α} {e : Nat} {w0 w : World} {F : Nat → Prop} {xs : List α} {A R : Blocks} {ops : Array Oper} {o : Oper} {a : Act} {K : Act → World → Prop} {Q : Exit → Act → World → Prop} {E : Prop}
/-- append of one element that was just built. -/
theorem step_append1 {g : Nat} {x : α} {v : Value} (S : St w0 F w ((g, C e (X.enc x)) :: (A ++ R))) (O : Own X e v xs A) (hgd : o.guard = none) (s y : Operand) (t : Nat)
    (ho : o.op = .call { callee := .builtin .append, args := #[s, y], argTypes := #[t, t] }) (z : Value) (by_ : Nat) (ht : P.underlying t = some (.slice e))
    (hinfo : (P.info? e).map (fun i => (i.zero, i.size, i.bytes)) = some (some z, X.sz, by_)) (hz : z.cells.size = X.sz) (hs : a.eval s = v) (hy : a.eval y = .slice (some ⟨g, 0, none⟩) 1 1)
    (hb : xs.length + 1 ≤ 2147483648 ∧ by_ ≤ 65536)
    (h : ∀ v' w' A', Own X e v' (xs ++ [x]) A' → St w0 F w' (A' ++ R) → K (a.put o.dst v') w') : if Region.wanted o (yielded ops a.tmps) = true then Oper.wp P o a w K Q else E := by
  refine wanted_of hgd ?_
  obtain ⟨i, hi, hz0, hz1, hz2⟩ := info_parts hinfo
  have S' := S.front
  have hgb := S.hc.at_ 0 (k := g) (o := C e (X.enc x)) rfl
  have hbytes : (xs.length + 1) * by_ ≤ 140737488355328 := by
    have := Nat.mul_le_mul hb.1 hb.2
    omega
  obtain ⟨v', w', hr, h2, h3, _, h5⟩ := run_append_own_at (P := P) w 0 t o.type e i z X.sz by_ ht hi hz0 hz1 hz2 hz X.pos v xs.length (X.all xs) (O.owns S'.hc.left) ⟨g, 0, none⟩ 1 1 (X.enc x) (by rw [X.len, Nat.one_mul])
    (fun j u hj => by
      have : (⟨g, 0, none⟩ : Addr).add j = ⟨g, j, none⟩ := by unfold Addr.add; split <;> simp_all
      rw [this, cell_of_row w g j _ e (0, 0) hgb]; simpa using hj) (X.one x) (by simp only [maxLen]; omega) hbytes (Nat.zero_le _)
  have e1 : X.all xs ++ X.enc x = X.all (xs ++ [x]) := by rw [X.all_append]; simp [Lay.all]
  rw [e1] at h2
  obtain ⟨A', O', S2⟩ := S'.grown O h2 (by simp) h3 h5
  unfold Oper.wp execOp
  simp only [ho, resolve, invoke, builtin, Sem.run_bind, Sem.run_pure, Result.andThen_ok, List.map_toArray, List.map_cons, List.map_nil, hs, hy, hr]
  exact h v' w' A' O' S2.drop
end
/-! ### whole structs -/
section
variable {P : Program} {w0 w : World} {F : Nat → Prop} {L : Blocks} {ops : Array Oper} {rest : List Oper} {o : Oper} {a : Act} {Q : Exit → Act → World → Prop}
/-- A load of a whole block. -/
theorem wpl_loadrow (S : St w0 F w L) (i : Nat) {g t : Nat} {cs : List Value} (hi : L[i]? = some (g, C t cs)) (hgd : o.guard = none) (ty : Nat) (x : Operand) (ho : o.op = .load ty x)
    (hx : a.eval x = .pointer (some ⟨g, 0, none⟩)) (d : TypeDesc) (hu : P.underlying ty = some d) (hd : (match d with | .struct _ | .array _ _ => true | _ => false) = true) (hinfo : (P.info? ty).map (·.size) = some cs.length)
    (h : wpList P ops Q rest (a.put o.dst (.agg cs.toArray)) w) : wpList P ops Q (o :: rest) a w :=
  wpList_load_row hgd ty x ho g hx t cs.toArray (0, 0) d (S.hc.at_ i hi) hu hd (by simpa using hinfo) h
theorem ret_cell (S : St w0 F w L) (i : Nat) {g t : Nat} {cs : List Value} (hi : L[i]? = some (g, C t cs)) {fn : Func} {R : Ending → World → Prop} {p ty : Nat} (h : fn.results = #[.cell p ty]) (hdef : a.defers = [])
    (hp : a.tmps.getD p undef = .pointer (some ⟨g, 0, none⟩)) (d : TypeDesc) (hu : P.underlying ty = some d) (hd : (match d with | .struct _ | .array _ _ => true | _ => false) = true) (hinfo : (P.info? ty).map (·.size) = some cs.length)
    (hR : R (.returned (.agg cs.toArray)) w) : bodyPost P fn R .ret a w :=
  bodyPost_ret (results_cell_row h a.tmps w g t cs.toArray (0, 0) d hp (S.hc.at_ i hi) hu hd (by simpa using hinfo)) hdef hR
theorem ret_cell_tmp (S : St w0 F w L) (i : Nat) {g t : Nat} {cs : List Value} (hi : L[i]? = some (g, C t cs)) {fn : Func} {R : Ending → World → Prop} {p u ty : Nat} (h : fn.results = #[.cell p ty, .tmp u]) (hdef : a.defers = [])
    (hp : a.tmps.getD p undef = .pointer (some ⟨g, 0, none⟩)) (d : TypeDesc) (hu : P.underlying ty = some d) (hd : (match d with | .struct _ | .array _ _ => true | _ => false) = true) (hinfo : (P.info? ty).map (·.size) = some cs.length)
    (v : Value) (hv : a.tmps.getD u undef = v) (hR : R (.returned (.tuple #[.agg cs.toArray, v])) w) : bodyPost P fn R .ret a w := by
  refine bodyPost_ret (v := .tuple #[.agg cs.toArray, v]) ?_ hdef hR
  rw [results_cell_tmp h]
  simp only [hp, asAddr, Sem.run_pure, Result.andThen_ok, run_loadVar_row w g t ty cs.toArray (0, 0) d (S.hc.at_ i hi) hu hd (by simpa using hinfo), hv]
end
/-! ### copy, of elements of one cell -/
section
variable {P : Program} {α : Type} {E : Lay α} {w0 w : World} {F : Nat → Prop} {L : Blocks} {ops : Array Oper} {rest : List Oper} {o : Oper} {a : Act} {Q : Exit → Act → World → Prop}
theorem Lay.all_take (hE : E.sz = 1) (ys : List α) (n : Nat) : (E.all ys).take n = E.all (ys.take n) := by
  have h := E.all_append (ys.take n) (ys.drop n)
  rw [List.take_append_drop] at h
  rw [h, List.take_append]
  have hl : (E.all (ys.take n)).length = min n ys.length := by rw [E.all_len, hE, Nat.mul_one, List.length_take]
  by_cases hn : n ≤ ys.length
  · rw [List.take_of_length_le (by rw [hl]; omega), hl]
    have : n - min n ys.length = 0 := by omega
    rw [this]; simp
  · rw [List.take_of_length_le (by rw [hl]; omega), List.drop_eq_nil_of_le (by omega)]
    simp [Lay.all]
theorem wpl_copy {ys : List α} {u : Value} (hE : E.sz = 1) (S : St w0 F w L) (i : Nat) {g e : Nat} {cs : List Value} (hi : L[i]? = some (g, C e cs)) (hu : Rd E w u ys) (hgd : o.guard = none) (d s : Operand) (t1 t2 : Nat)
    (ho : o.op = .call { callee := .builtin .copy, args := #[d, s], argTypes := #[t1, t2] }) (elem : Nat) (ht : P.underlying t1 = some (.slice elem)) (hs : (P.info? elem).map (·.size) = some 1)
    (off dl dc : Nat) (hd : a.eval d = .slice (some ⟨g, off, none⟩) dl dc) (hx : a.eval s = u) (hfit : off + min ys.length dl ≤ cs.length)
    (K : ∀ w', St w0 F w' (L.set i (g, C e (put cs off (E.all (ys.take dl))))) → wpList P ops Q rest (a.put o.dst (.int .i64 (min ys.length dl : Nat))) w') : wpList P ops Q (o :: rest) a w := by
  refine wpList_plain hgd fun K' hK => ?_
  have hg := S.hc.at_ i hi
  obtain ⟨U, c, rfl, hc1, hc2, hcell⟩ := hu
  have hlen : (E.all (ys.take dl)).length = min ys.length dl := by rw [E.all_len, hE, Nat.mul_one, List.length_take]; omega
  cases U with
  | none =>
    have hy0 : ys = [] := by
      cases ys with
      | nil => rfl
      | cons y ys =>
        have h0 : 0 < (E.all (y :: ys)).length := by rw [E.all_len]; exact Nat.mul_pos (by simp) E.pos
        obtain ⟨b, off, h, _⟩ := hcell 0 _ (List.getElem?_eq_getElem h0)
        cases h
    subst hy0
    have hr : (Builtin.copy_ #[t1, t2] o.type #[.slice (some ⟨g, off, none⟩) dl dc, .slice none ([] : List α).length c]).run P w = .ok (goInt 0) w := by
      cases hq : P.info? elem with
      | none => simp [hq] at hs
      | some i => simp [Builtin.copy_, run_underlying ht, Builtin.lenOf, Builtin.firstCells, sizeOf, typeInfo, hq, storeCells]
    have e1 : put cs off (E.all (([] : List α).take dl)) = cs := by simp [put, Lay.all]
    have e2 : L.set i (g, C e cs) = L := by
      apply List.ext_getElem?
      intro j
      rw [List.getElem?_set]
      split
      · rename_i hj; subst hj
        split
        · exact hi.symm
        · rename_i hlt; rw [List.getElem?_eq_none (by omega)]
      · rfl
    have := K w (by rw [e1, e2]; exact S)
    unfold Oper.wp execOp
    simp only [ho, resolve, invoke, builtin, Sem.run_bind, Sem.run_pure, Result.andThen_ok, List.map_toArray, List.map_cons, List.map_nil, hd, hx, hr]
    exact hK _ _ (by simpa [goInt] using this)
  | some ad =>
    have hr := run_copy_row (P := P) w t1 t2 o.type elem g off dl dc ad ys.length c cs.toArray e (E.all (ys.take dl)) ht hs hg (by rw [hlen]) (fun j v hj => by
      have hj' : (E.all ys)[j]? = some v := by
        rw [← E.all_take hE, List.getElem?_take] at hj
        split at hj
        · exact hj
        · cases hj
      obtain ⟨b, off', h, hc⟩ := hcell j v hj'
      injection h with h; subst h
      have : (⟨b, off', none⟩ : Addr).add j = ⟨b, off' + j, none⟩ := by unfold Addr.add; split <;> simp_all
      rw [this]; exact hc) (by rw [hlen]; simpa using hfit) (E.all_one _)
    have hT : Turn w (w.setRow g (cs.toArray.toList.take off ++ E.all (ys.take dl) ++ cs.toArray.toList.drop (off + (E.all (ys.take dl)).length)).toArray) g (C e (put cs off (E.all (ys.take dl)))) := by
      have hlt := blk_lt' hg
      refine ⟨rfl, rfl, rfl, by simp [World.setRow], ?_, fun k hk => ?_⟩
      · simp [World.setRow, Array.getElem?_modify, hg, C, put]
      · simp only [World.setRow, Array.getElem?_modify]
        rw [if_neg (fun e => hk e.symm)]
    have := K _ (S.turn i hi hT)
    unfold Oper.wp execOp
    simp only [ho, resolve, invoke, builtin, Sem.run_bind, Sem.run_pure, Result.andThen_ok, List.map_toArray, List.map_cons, List.map_nil, hd, hx, hr]
    rw [hlen] at this ⊢
    exact hK _ _ (by simpa [goInt] using this)
end
end Go.Proofs.YtnobknmhffaoeaaGreatDoor
