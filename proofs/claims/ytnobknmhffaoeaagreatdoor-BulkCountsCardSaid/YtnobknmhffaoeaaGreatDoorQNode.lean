/- Texts in order: how two compare, how much they share, and the shortest that parts them. No program is named. Nodes, and the rows of nodes that are laid. No program is named. Settings that are right, in natural numbers; a node's bytes. lex: Compare, Shared, Cut, In, All; node.Key. leaf.Right; ContainsFunc over pairs; the closures that ask a pair. -/
import Derived.Lib.Bytealg
import Derived.Lib.Strings
import Derived.Laws.Cover1
import Derived.Test.YtnobknmhffaoeaaGreatDoorQBase
import Derived.Test.YtnobknmhffaoeaaGreatDoorQConf
import Derived.Test.YtnobknmhffaoeaaGreatDoorQText
import Derived.Test.YtnobknmhffaoeaaGreatDoorQFlush
set_option linter.unusedVariables false
set_option linter.unusedSimpArgs false
namespace Go.Proofs.YtnobknmhffaoeaaGreatDoor
def kb (s : ByteArray) : List UInt8 := s.data.toList
theorem kb_len (s : ByteArray) : (kb s).length = s.size := by unfold kb; rw [Array.length_toList]; rfl
theorem kb_toList (s : ByteArray) : s.toList = kb s := ByteArray.toList_eq s
theorem kb_inj {a b : ByteArray} (h : kb a = kb b) : a = b := by
  obtain ⟨a⟩ := a; obtain ⟨b⟩ := b
  simp [kb] at h; rw [h]
def kcmp (a b : ByteArray) : Int := Lib.compareBytes (kb a) (kb b)
theorem cb_cases : ∀ a b : List UInt8, (Lib.compareBytes a b = -1 ∧ a < b) ∨ (Lib.compareBytes a b = 0 ∧ a = b) ∨ (Lib.compareBytes a b = 1 ∧ b < a)
  | [], [] => .inr (.inl ⟨rfl, rfl⟩)
  | [], _ :: _ => .inl ⟨rfl, by simp⟩
  | _ :: _, [] => .inr (.inr ⟨rfl, by simp⟩)
  | a :: al, b :: bs => by
    unfold Lib.compareBytes
    by_cases h1 : a < b
    · rw [if_pos h1]; exact .inl ⟨rfl, List.cons_lt_cons_iff.2 (.inl h1)⟩
    · rw [if_neg h1]
      by_cases h2 : b < a
      · rw [if_pos h2]; exact .inr (.inr ⟨rfl, List.cons_lt_cons_iff.2 (.inl h2)⟩)
      · rw [if_neg h2]
        have e : a = b := by
          have h3 := UInt8.not_lt.1 h1; have h4 := UInt8.not_lt.1 h2
          exact UInt8.le_antisymm h4 h3
        subst e
        rcases cb_cases al bs with ⟨h, h'⟩ | ⟨h, h'⟩ | ⟨h, h'⟩
        · exact .inl ⟨h, List.cons_lt_cons_iff.2 (.inr ⟨rfl, h'⟩)⟩
        · exact .inr (.inl ⟨h, by rw [h']⟩)
        · exact .inr (.inr ⟨h, List.cons_lt_cons_iff.2 (.inr ⟨rfl, h'⟩)⟩)
theorem lt_asymm' {a b : List UInt8} (h : a < b) : ¬ b < a := fun h' => List.lt_irrefl a (List.lt_trans h h')
theorem kcmp_lt {a b : ByteArray} : kcmp a b < 0 ↔ kb a < kb b := by
  unfold kcmp
  rcases cb_cases (kb a) (kb b) with ⟨h, h'⟩ | ⟨h, h'⟩ | ⟨h, h'⟩ <;> rw [h]
  · simp [h']
  · rw [h']; simp [List.lt_irrefl]
  · simp [lt_asymm' h']
theorem kcmp_ge {a b : ByteArray} : ¬ kcmp a b < 0 ↔ 0 ≤ kcmp a b := by omega
theorem bless : ∀ (x y : List UInt8), Op.bytesLess x y = decide (x < y)
  | [], [] => by simp [Op.bytesLess]
  | _ :: _, [] => by simp [Op.bytesLess]
  | [], _ :: _ => by simp [Op.bytesLess]
  | a :: x, b :: y => by
    rw [Op.bytesLess, bless x y]
    simp only [List.cons_lt_cons_iff]
    by_cases h1 : a < b <;> by_cases h2 : a = b <;> by_cases h3 : x < y <;> simp [h1, h2, h3]
theorem kless (a b : ByteArray) : Op.bytesLess a.toList b.toList = decide (kcmp a b < 0) := by
  rw [bless, kb_toList, kb_toList]
  by_cases h : kb a < kb b
  · rw [decide_eq_true h, decide_eq_true (kcmp_lt.2 h)]
  · rw [decide_eq_false h, decide_eq_false (fun h' => h (kcmp_lt.1 h'))]
theorem kcmp_trans {a b c : ByteArray} (h1 : kcmp a b < 0) (h2 : kcmp b c < 0) : kcmp a c < 0 := kcmp_lt.2 (List.lt_trans (kcmp_lt.1 h1) (kcmp_lt.1 h2))
/-- How long the part is that two lists share. -/
def shared : List UInt8 → List UInt8 → Nat
  | a :: al, b :: bs => if a = b then shared al bs + 1 else 0
  | _, _ => 0
theorem shared_le : ∀ a b : List UInt8, shared a b ≤ a.length ∧ shared a b ≤ b.length
  | [], _ => by simp [shared]
  | _ :: _, [] => by simp [shared]
  | a :: al, b :: bs => by
    have := shared_le al bs
    unfold shared
    split <;> simp <;> omega
theorem shared_of : ∀ (a b : List UInt8) (r : Nat), r ≤ a.length → r ≤ b.length → (∀ j, j < r → a[j]? = b[j]?) → (r = min a.length b.length ∨ a[r]? ≠ b[r]?) → shared a b = r
  | [], b, r, h1, h2, _, _ => by simp at h1; subst h1; simp [shared]
  | a :: al, [], r, h1, h2, _, _ => by simp at h2; subst h2; simp [shared]
  | a :: al, b :: bs, 0, h1, h2, h3, h4 => by
    rcases h4 with h4 | h4
    · simp at h4
    · unfold shared; rw [if_neg (fun e => h4 (by rw [e]; simp))]
  | a :: al, b :: bs, r + 1, h1, h2, h3, h4 => by
    have h0 := h3 0 (by omega)
    simp at h0
    unfold shared
    rw [if_pos h0, shared_of al bs r (by simpa using h1) (by simpa using h2) (fun j hj => by simpa using h3 (j + 1) (by omega)) (by
      rcases h4 with h4 | h4
      · left; simp at h4; omega
      · right; simpa using h4)]
theorem shared_lt : ∀ {a b : List UInt8}, a < b → shared a b < b.length ∧ a < b.take (shared a b + 1) ∧ ¬ b < b.take (shared a b + 1)
  | [], [], h => absurd h (List.lt_irrefl _)
  | [], b :: bs, _ => ⟨by simp [shared], by simp [shared], by simp [shared]⟩
  | a :: al, [], h => by simp at h
  | a :: al, b :: bs, h => by
    unfold shared
    rcases List.cons_lt_cons_iff.1 h with h | ⟨rfl, hh⟩
    · have hne : ¬ a = b := fun e => by subst e; exact absurd h (UInt8.lt_irrefl _)
      rw [if_neg hne]
      refine ⟨by simp, ?_, ?_⟩
      · simp only [Nat.zero_add, List.take_succ_cons, List.take_zero]
        exact List.cons_lt_cons_iff.2 (.inl h)
      · simp only [Nat.zero_add, List.take_succ_cons, List.take_zero]
        intro h'
        rcases List.cons_lt_cons_iff.1 h' with h' | ⟨_, h'⟩
        · exact UInt8.lt_irrefl _ h'
        · simp at h'
    · obtain ⟨h1, h2, h3⟩ := shared_lt hh
      rw [if_pos rfl]
      refine ⟨by simp; omega, ?_, ?_⟩
      · rw [List.take_succ_cons]; exact List.cons_lt_cons_iff.2 (.inr ⟨rfl, h2⟩)
      · rw [List.take_succ_cons]
        intro h'
        rcases List.cons_lt_cons_iff.1 h' with h' | ⟨_, h'⟩
        · exact UInt8.lt_irrefl _ h'
        · exact h3 h'
/-- The shortest front of b that is behind a. -/
def kcut (a b : ByteArray) : ByteArray := b.extract 0 (shared (kb a) (kb b) + 1)
theorem kb_extract (b : ByteArray) (n : Nat) : kb (b.extract 0 n) = (kb b).take n := by
  unfold kb
  rw [ByteArray.data_extract]
  simp
theorem kcut_lt {a b : ByteArray} (h : kcmp a b < 0) : kcmp a (kcut a b) < 0 ∧ ¬ kcmp b (kcut a b) < 0 ∧ 1 ≤ (kcut a b).size ∧ (kcut a b).size ≤ b.size := by
  obtain ⟨h1, h2, h3⟩ := shared_lt (kcmp_lt.1 h)
  refine ⟨kcmp_lt.2 (by unfold kcut; rw [kb_extract]; exact h2), fun h' => h3 ?_, ?_, ?_⟩
  · have := kcmp_lt.1 h'
    unfold kcut at this; rwa [kb_extract] at this
  · rw [← kb_len]; unfold kcut; rw [kb_extract, List.length_take]; omega
  · rw [← kb_len, ← kb_len b]; unfold kcut; rw [kb_extract, List.length_take]; omega
theorem kcmp_ge_lt {a b c : ByteArray} (h1 : ¬ kcmp b a < 0) (h2 : kcmp b c < 0) : kcmp a c < 0 := by
  rw [kcmp_lt] at *
  rcases cb_cases (kb a) (kb b) with ⟨_, h⟩ | ⟨_, h⟩ | ⟨_, h⟩
  · exact List.lt_trans h h2
  · rw [h]; exact h2
  · exact absurd h h1
/-- Each ahead of the next. -/
def Rise (l : List ByteArray) : Prop := ∀ i a b, l[i]? = some a → l[i + 1]? = some b → kcmp a b < 0
theorem Rise.all : ∀ {l : List ByteArray}, Rise l → l.Pairwise fun a b => kcmp a b < 0
  | [], _ => List.Pairwise.nil
  | [a], _ => by simp
  | a :: b :: l, h => by
    have ih : (b :: l).Pairwise fun a b => kcmp a b < 0 := Rise.all fun i x y hx hy => h (i + 1) x y (by simpa using hx) (by simpa using hy)
    refine List.pairwise_cons.2 ⟨fun c hc => ?_, ih⟩
    have hab := h 0 a b rfl rfl
    rcases List.mem_cons.1 hc with rfl | hc
    · exact hab
    · exact kcmp_trans hab ((List.pairwise_cons.1 ih).1 c hc)
end Go.Proofs.YtnobknmhffaoeaaGreatDoor
namespace Go.Proofs.YtnobknmhffaoeaaGreatDoor
open Go.RowKit
structure Nd where
  level : Nat
  kids : List Nat
  pivots : List ByteArray
  buf : List Ms
  pairs : List Pr
structure Spot where
  block : Nat
  low : ByteArray
  top : ByteArray
instance : Inhabited Spot := ⟨⟨0, ⟨#[]⟩, ⟨#[]⟩⟩⟩
/-- May this text be a key? -/
def KeyOk (ck : Nat) (s : ByteArray) : Prop := 1 ≤ s.size ∧ s.size ≤ ck
def PairOk (ck cv : Nat) (p : Pr) : Prop := KeyOk ck p.key ∧ p.val.size ≤ cv
structure OuterOk (ck cv leaf : Nat) (l : List Pr) : Prop where
  len : l.length ≤ leaf
  rise : Rise (l.map Pr.key)
  each : ∀ p ∈ l, PairOk ck cv p
structure InnerOk (ck fan blocks : Nat) (n : Nd) : Prop where
  l1 : 1 ≤ n.level
  l2 : n.level ≤ 40
  pairs : n.pairs = []
  buf : n.buf = []
  k1 : 1 ≤ n.kids.length
  k2 : n.kids.length ≤ fan
  kup : n.kids.Pairwise (· < ·)
  kin : ∀ k ∈ n.kids, 1 ≤ k ∧ k < blocks
  plen : n.pivots.length + 1 = n.kids.length
  prise : Rise n.pivots
  peach : ∀ p ∈ n.pivots, KeyOk ck p
/-- What parts the spots of a row. -/
def pivotsOf : List Spot → List ByteArray
  | a :: b :: l => kcut a.top b.low :: pivotsOf (b :: l)
  | _ => []
def nodeOf (level : Nat) (part : List Spot) : Nd := ⟨level, part.map Spot.block, pivotsOf part, [], []⟩
/-- A row of spots that were laid one behind the other from block b on. -/
structure SpotsOk (ck b : Nat) (l : List Spot) : Prop where
  at_ : ∀ i s, l[i]? = some s → s.block = b + i
  own : ∀ s ∈ l, ¬ kcmp s.top s.low < 0 ∧ KeyOk ck s.low ∧ KeyOk ck s.top
  next : ∀ i s t, l[i]? = some s → l[i + 1]? = some t → kcmp s.top t.low < 0
theorem SpotsOk.tail {ck b : Nat} {s : Spot} {l : List Spot} (h : SpotsOk ck b (s :: l)) : SpotsOk ck (b + 1) l :=
  ⟨fun i t ht => by have := h.at_ (i + 1) t (by simpa using ht); omega, fun t ht => h.own t (List.mem_cons_of_mem _ ht), fun i x y hx hy => h.next (i + 1) x y (by simpa using hx) (by simpa using hy)⟩
theorem take_get {α : Type} {l : List α} {n i : Nat} {t : α} (h : (l.take n)[i]? = some t) : l[i]? = some t := by
  rw [List.getElem?_take] at h
  by_cases hi : i < n
  · rwa [if_pos hi] at h
  · rw [if_neg hi] at h; cases h
theorem SpotsOk.take {ck b : Nat} {l : List Spot} (h : SpotsOk ck b l) (n : Nat) : SpotsOk ck b (l.take n) :=
  ⟨fun i t ht => h.at_ i t (take_get ht), fun t ht => h.own t (List.mem_of_mem_take ht), fun i x y hx hy => h.next i x y (take_get hx) (take_get hy)⟩
theorem SpotsOk.drop {ck b : Nat} {l : List Spot} (h : SpotsOk ck b l) (n : Nat) : SpotsOk ck (b + n) (l.drop n) :=
  ⟨fun i t ht => by rw [List.getElem?_drop] at ht; have := h.at_ _ t ht; omega, fun t ht => h.own t (List.mem_of_mem_drop ht), fun i x y hx hy => by
    rw [List.getElem?_drop] at hx hy
    exact h.next (n + i) x y hx (by rw [← hy]; congr 1)⟩
theorem pivots_len : ∀ l : List Spot, (pivotsOf l).length = l.length - 1
  | [] => rfl
  | [_] => rfl
  | a :: b :: l => by
    have := pivots_len (b :: l)
    simp [pivotsOf, this]
theorem pivots_get : ∀ (l : List Spot) (i : Nat) (p : ByteArray), (pivotsOf l)[i]? = some p → ∃ s t, l[i]? = some s ∧ l[i + 1]? = some t ∧ p = kcut s.top t.low
  | [], i, p, h => by simp [pivotsOf] at h
  | [_], i, p, h => by simp [pivotsOf] at h
  | a :: b :: l, 0, p, h => by
    simp [pivotsOf] at h
    exact ⟨a, b, rfl, rfl, h.symm⟩
  | a :: b :: l, i + 1, p, h => by
    obtain ⟨s, t, h1, h2, h3⟩ := pivots_get (b :: l) i p (by simpa [pivotsOf] using h)
    exact ⟨s, t, by simpa using h1, by simpa using h2, h3⟩
theorem kcmp_lt_of_lt_le {a b c : ByteArray} (h1 : kcmp a b < 0) (h2 : ¬ kcmp c b < 0) : kcmp a c < 0 := by
  rw [kcmp_lt] at *
  rcases cb_cases (kb c) (kb b) with ⟨_, h⟩ | ⟨_, h⟩ | ⟨_, h⟩
  · exact absurd h h2
  · rw [h]; exact h1
  · exact List.lt_trans h1 h
theorem nodeOf_ok {ck fan blocks b level : Nat} {part : List Spot} (h : SpotsOk ck b part) (h0 : part ≠ []) (hf : part.length ≤ fan) (hb : 1 ≤ b) (hbb : b + part.length ≤ blocks) (l1 : 1 ≤ level) (l2 : level ≤ 40) :
    InnerOk ck fan blocks (nodeOf level part) := by
  have hpos : 1 ≤ part.length := by cases part with
    | nil => exact absurd rfl h0
    | cons _ _ => simp
  refine ⟨l1, l2, rfl, rfl, by simpa [nodeOf] using hpos, by simpa [nodeOf] using hf, ?_, ?_, ?_, ?_, ?_⟩
  · show (part.map Spot.block).Pairwise (· < ·)
    rw [List.pairwise_iff_getElem]
    intro i j hi hj hij
    simp only [List.length_map] at hi hj
    simp only [List.getElem_map]
    have h1 := h.at_ i _ (List.getElem?_eq_getElem hi)
    have h2 := h.at_ j _ (List.getElem?_eq_getElem hj)
    omega
  · intro k hk
    obtain ⟨s, hs, rfl⟩ := List.mem_map.1 (show k ∈ part.map Spot.block from hk)
    obtain ⟨i, hi⟩ := List.getElem?_of_mem hs
    have h1 := h.at_ i s hi
    have := (List.getElem?_eq_some_iff.1 hi).1
    omega
  · show (pivotsOf part).length + 1 = (part.map Spot.block).length
    rw [pivots_len, List.length_map]; omega
  · intro i p q hp hq
    obtain ⟨s, t, h1, h2, rfl⟩ := pivots_get part i p hp
    obtain ⟨t', u, h3, h4, rfl⟩ := pivots_get part (i + 1) q hq
    rw [h2] at h3; injection h3 with h3; subst h3
    obtain ⟨_, c2, _, _⟩ := kcut_lt (h.next i s t h1 h2)
    obtain ⟨d1, _, _, _⟩ := kcut_lt (h.next (i + 1) t u h2 h4)
    have hle := (h.own t (List.mem_of_getElem? h2)).1
    -- the first pivot is at most t.low, which is at most t.top
    have e1 : ¬ kcmp t.top (kcut s.top t.low) < 0 := fun hh => hle (kcmp_lt_of_lt_le hh c2)
    exact kcmp_ge_lt e1 d1
  · intro p hp
    obtain ⟨i, hi⟩ := List.getElem?_of_mem (show p ∈ pivotsOf part from hp)
    obtain ⟨s, t, h1, h2, rfl⟩ := pivots_get part i p hi
    obtain ⟨_, _, c3, c4⟩ := kcut_lt (h.next i s t h1 h2)
    exact ⟨c3, Nat.le_trans c4 (h.own t (List.mem_of_getElem? h2)).2.1.2⟩
/-- A list in parts of n, the last may be shorter. -/
def chunks {α : Type} (n : Nat) (l : List α) : List (List α) := if h : 0 < n ∧ l ≠ [] then l.take n :: chunks n (l.drop n) else []
termination_by l.length
decreasing_by
  have : 0 < l.length := List.length_pos_iff.2 h.2
  simp; omega
theorem chunks_nil {α : Type} (n : Nat) : chunks n ([] : List α) = [] := by
  unfold chunks; rw [dif_neg (fun h => h.2 rfl)]
theorem chunks_cons {α : Type} {n : Nat} {l : List α} (hn : 0 < n) (hl : l ≠ []) : chunks n l = l.take n :: chunks n (l.drop n) := by
  conv => lhs; unfold chunks
  rw [dif_pos ⟨hn, hl⟩]
theorem chunks_get {α : Type} {n : Nat} (hn : 0 < n) : ∀ (l : List α) (i : Nat) (x : List α), (chunks n l)[i]? = some x → i * n < l.length ∧ x = (l.drop (i * n)).take n := by
  intro l
  induction hk : l.length using Nat.strongRecOn generalizing l with
  | ind k ih =>
    intro i x hx
    by_cases hl : l = []
    · subst hl; rw [chunks_nil] at hx; simp at hx
    · have hpos : 0 < l.length := List.length_pos_iff.2 hl
      rw [chunks_cons hn hl] at hx
      cases i with
      | zero => simp at hx; subst hx; exact ⟨by omega, by simp⟩
      | succ i =>
        have := ih (l.drop n).length (by simp; omega) (l.drop n) rfl i x (by simpa using hx)
        obtain ⟨h1, h2⟩ := this
        rw [List.length_drop] at h1
        refine ⟨by rw [Nat.succ_mul]; omega, ?_⟩
        rw [h2, List.drop_drop, Nat.succ_mul, Nat.add_comm n]
theorem chunks_len {α : Type} {n : Nat} (hn : 0 < n) : ∀ (l : List α), (chunks n l).length = (l.length + n - 1) / n := by
  intro l
  induction hk : l.length using Nat.strongRecOn generalizing l with
  | ind k ih =>
    by_cases hl : l = []
    · subst hl; rw [chunks_nil]; simp at hk; subst hk
      rw [Nat.div_eq_of_lt (by omega)]; rfl
    · have hpos : 0 < l.length := List.length_pos_iff.2 hl
      rw [chunks_cons hn hl, List.length_cons, ih (l.drop n).length (by simp; omega) (l.drop n) rfl, List.length_drop]
      rw [← hk]
      by_cases hle : l.length ≤ n
      · rw [Nat.sub_eq_zero_of_le hle, Nat.div_eq_of_lt (show 0 + n - 1 < n by omega)]
        have : (l.length + n - 1) / n = 1 := Nat.div_eq_of_lt_le (by omega) (by omega)
        omega
      · rw [show l.length + n - 1 = (l.length - n + n - 1) + n by omega, Nat.add_div_right _ hn]
end Go.Proofs.YtnobknmhffaoeaaGreatDoor
namespace Go.Proofs.YtnobknmhffaoeaaGreatDoor
open Go.RowKit
structure Cn where
  blocks : Nat
  bytes : Nat
  frames : Nat
  fan : Nat
  buffer : Nat
  leaf : Nat
  key : Nat
  val : Nat
def Cn.c (q : Cn) : Cfg := ⟨q.blocks, q.bytes, q.frames, q.fan, q.buffer, q.leaf, q.key, q.val⟩
structure Cn.Good (q : Cn) : Prop where
  b1 : 5 ≤ q.blocks
  b2 : q.blocks ≤ 65536
  r1 : 8 ≤ q.frames
  r2 : q.frames ≤ 64
  y1 : 64 ≤ q.bytes
  y2 : q.bytes ≤ 65536
  f1 : 8 ≤ q.fan
  f2 : q.fan ≤ 64
  u1 : 2 * q.fan ≤ q.buffer
  u2 : q.buffer ≤ 512
  l1 : q.buffer ≤ q.leaf
  l2 : q.leaf ≤ 1024
  k1 : 1 ≤ q.key
  k2 : q.key ≤ 64
  v2 : q.val ≤ 256
  inner : 8 + 4 * q.fan + (q.fan - 1) * (1 + q.key) + q.buffer * (4 + q.key + q.val) ≤ q.bytes
  outer : 8 + q.leaf * (3 + q.key + q.val) ≤ q.bytes
theorem Cn.good_iff (q : Cn) : q.c.Ok ↔ q.Good := by
  obtain ⟨blocks, bytes, frames, fan, buffer, leaf, key, val⟩ := q
  have e : (0 < fan) → (((fan : Int) - 1) * (1 + (key : Int))) = (((fan - 1) * (1 + key) : Nat) : Int) := by
    intro h; rw [Int.natCast_mul, Int.natCast_sub (by omega)]; rfl
  have e2 : (buffer : Int) * (4 + (key : Int) + (val : Int)) = ((buffer * (4 + key + val) : Nat) : Int) := by rw [Int.natCast_mul]; rfl
  have e3 : (leaf : Int) * (3 + (key : Int) + (val : Int)) = ((leaf * (3 + key + val) : Nat) : Int) := by rw [Int.natCast_mul]; rfl
  constructor
  · intro h
    obtain ⟨hs, h1, h2, h3, h4, h5, h6⟩ := h
    have hl : (Cn.c ⟨blocks, bytes, frames, fan, buffer, leaf, key, val⟩).least.bytes = max 64 (max (8 + 4 * (fan : Int) + ((fan : Int) - 1) * (1 + (key : Int)) + (buffer : Int) * (4 + (key : Int) + (val : Int))) (8 + (leaf : Int) * (3 + (key : Int) + (val : Int)))) := by
      unfold Cfg.least; rw [if_pos hs]
      unfold Cfg.inner Cfg.outer; rw [if_pos hs, if_pos hs]; rfl
    rw [hl] at h6
    unfold Cfg.Sized at hs
    dsimp only [Cn.c] at *
    rw [e (by omega), e2, e3] at h6
    constructor <;> dsimp only <;> omega
  · intro h
    obtain ⟨h1, h2, h3, h4, h5, h6, h7, h8, h9, h10, h11, h12, h13, h14, h15, h16, h17⟩ := h
    dsimp only at *
    have hs : (Cn.c ⟨blocks, bytes, frames, fan, buffer, leaf, key, val⟩).Sized := by
      unfold Cfg.Sized; dsimp only [Cn.c]; omega
    have hl : (Cn.c ⟨blocks, bytes, frames, fan, buffer, leaf, key, val⟩).least.bytes = max 64 (max (8 + 4 * (fan : Int) + ((fan : Int) - 1) * (1 + (key : Int)) + (buffer : Int) * (4 + (key : Int) + (val : Int))) (8 + (leaf : Int) * (3 + (key : Int) + (val : Int)))) := by
      unfold Cfg.least; rw [if_pos hs]
      unfold Cfg.inner Cfg.outer; rw [if_pos hs, if_pos hs]; rfl
    refine ⟨hs, ?_, ?_, ?_, ?_, ?_, ?_⟩
    · show (5 : Int) ≤ blocks; omega
    · show (blocks : Int) ≤ 65536; omega
    · show (8 : Int) ≤ frames; omega
    · show (frames : Int) ≤ 64; omega
    · show (bytes : Int) ≤ 65536; omega
    · rw [hl, e (by omega), e2, e3]; show _ ≤ (bytes : Int); omega
theorem Cfg.nat (c : Cfg) (h : c.Ok) : ∃ q : Cn, q.c = c ∧ q.Good := by
  have h0 := h
  obtain ⟨hs, h1, h2, h3, h4, h5, h6⟩ := h
  have hb : 64 ≤ c.least.bytes := by unfold Cfg.least; rw [if_pos hs]; show (64 : Int) ≤ max 64 _; omega
  unfold Cfg.Sized at hs
  obtain ⟨blocks, bytes, frames, fan, buffer, leaf, key, val⟩ := c
  dsimp only at *
  have e : Cn.c ⟨blocks.toNat, bytes.toNat, frames.toNat, fan.toNat, buffer.toNat, leaf.toNat, key.toNat, val.toNat⟩ = ⟨blocks, bytes, frames, fan, buffer, leaf, key, val⟩ := by
    unfold Cn.c; simp only [Cfg.mk.injEq]; omega
  exact ⟨_, e, (Cn.good_iff _).1 (e ▸ h0)⟩
theorem Cn.check (q : Cn) (h : q.Good) : q.c.check = 0 := by unfold Cfg.check; rw [if_pos ((Cn.good_iff q).2 h)]
/-! ### a node's bytes -/
def outerL (q : Cn) (l : List Pr) : List UInt8 := frontL 1 0 l.length 0 ++ l.flatMap fun p => pairL q.key q.val p.key p.val
def kidsL (fan : Nat) (l : List Nat) : List UInt8 := (List.range fan).flatMap fun i => be 4 (l.getD i 0)
def pivL (ck m : Nat) (l : List ByteArray) : List UInt8 := (List.range m).flatMap fun i => be 1 (l.getD i ByteArray.empty).size ++ slotL (l.getD i ByteArray.empty) ck
def innerL (q : Cn) (n : Nd) : List UInt8 := frontL 2 n.level n.kids.length 0 ++ kidsL q.fan n.kids ++ pivL q.key (q.fan - 1) n.pivots
def nodeL (q : Cn) (n : Nd) : List UInt8 := if n.level = 0 then outerL q n.pairs else innerL q n
def fillL (m : Nat) (l : List UInt8) : List UInt8 := l ++ List.replicate (m - l.length) 0
theorem slot_len {s : ByteArray} {m : Nat} (h : s.size ≤ m) : (slotL s m).length = m := by
  unfold slotL; rw [List.length_append, bytesL_len, List.length_replicate]; omega
theorem pair_len {ck cv : Nat} {key val : ByteArray} (h1 : key.size ≤ ck) (h2 : val.size ≤ cv) : (pairL ck cv key val).length = 3 + ck + cv := by
  unfold pairL; simp only [List.length_append, be_len, slot_len h1, slot_len h2]
theorem front_len (a b c d : Nat) : (frontL a b c d).length = 8 := by unfold frontL; simp only [List.length_append, be_len]
theorem flat_each {α : Type} {f : α → List UInt8} {m : Nat} : ∀ {l : List α}, (∀ x ∈ l, (f x).length = m) → (l.flatMap f).length = l.length * m
  | [], _ => by simp
  | a :: l, h => by
    rw [List.flatMap_cons, List.length_append, flat_each (fun x hx => h x (List.mem_cons_of_mem _ hx)), h a List.mem_cons_self, List.length_cons, Nat.add_mul]; omega
theorem outer_len {q : Cn} {l : List Pr} (h : ∀ p ∈ l, PairOk q.key q.val p) : (outerL q l).length = 8 + l.length * (3 + q.key + q.val) := by
  unfold outerL
  rw [List.length_append, front_len, flat_each (m := 3 + q.key + q.val) (fun p hp => pair_len (h p hp).1.2 (h p hp).2)]
end Go.Proofs.YtnobknmhffaoeaaGreatDoor
namespace Go.Proofs.YtnobknmhffaoeaaGreatDoor
open Go.RowKit
section
variable (w : World)
set_option maxHeartbeats 1000000 in
set_option maxRecDepth 100000 in
theorem cmp_string (a b : ByteArray) : Calls Tryz.prog 104 #[.string a, .string b] w fun e w' => e = .returned (.int .i64 (kcmp a b)) ∧ w = w' := by
  go_enter Tryz.func104, Tryz.ntmps104
  go_wp2
  rw [run_callFunc_extern Tryz.func122 (by kernel_rfl) (by kernel_rfl) (by kernel_rfl) (e := Extern.BytealgCompare.compare) (by kernel_rfl), Lib.run_compareString]
  simp only [Result.andThen]
  rw [Oper.upon_value]
  go_wp2
  go_ret
  exact ⟨rfl, rfl⟩
theorem str_compare (a b : ByteArray) : Calls Tryz.prog 89 #[.string a, .string b] w fun e w' => e = .returned (.int .i64 (kcmp a b)) ∧ w = w' := by
  have h := Lib.hid (cmp_string w a b)
  generalize kcmp a b = r at *
  go_enter Tryz.func89, Tryz.ntmps89
  go_wp2_with (go_at_call 104; refine h.out.mono ?_; rintro e w' ⟨rfl, rfl⟩)
  go_ret
  exact ⟨rfl, rfl⟩
theorem lex_compare (a b : ByteArray) : Calls Tryz.prog 68 #[.string a, .string b] w fun e w' => e = .returned (.int .i64 (kcmp a b)) ∧ w = w' := by
  have h := Lib.hid (str_compare w a b)
  generalize kcmp a b = r at *
  go_enter Tryz.func68, Tryz.ntmps68
  go_wp2_with (go_at_call 89; refine h.out.mono ?_; rintro e w' ⟨rfl, rfl⟩)
  go_ret
  exact ⟨rfl, rfl⟩
theorem run_idx (x : ByteArray) (j : Nat) (hj : j < x.size) (w : World) : (Instr.index 9 (.string x) (.int .i64 j)).run Tryz.prog w = .ok (.int .u8 ((kb x).getD j 0).toNat) w := by
  rw [run_index_string w _ x _ _ Tryz.underlying9, dif_pos (by omega)]
  have e : (x[(j : Int).toNat]'(by omega)) = (kb x).getD j 0 := by
    have h2 : j < (kb x).length := by rw [kb_len]; exact hj
    rw [List.getD_eq_getElem?_getD, List.getElem?_eq_getElem h2]
    rfl
  rw [e]
set_option maxRecDepth 100000 in
set_option maxHeartbeats 2000000 in
theorem lex_shared (a b : ByteArray) (ha : a.size ≤ 100000) (hb : b.size ≤ 100000) : Calls Tryz.prog 79 #[.string a, .string b] w fun e w' => e = .returned (.int .i64 (shared (kb a) (kb b) : Nat)) ∧ ∃ q, w' = w.drewN q := by
  go_enter Tryz.func79, Tryz.ntmps79
  go_wp2
  all_goals (go_loopw [13] (fun vj wr => ∃ (j q : Nat), vj = .int .i64 j ∧ j ≤ a.size ∧ j ≤ b.size ∧ Hid (∀ i, i < j → (kb a)[i]? = (kb b)[i]?) ∧ wr = w.drewN q) (fun vj _ => a.size + 1 - (intOf vj).toNat))
  all_goals first
    | exact ⟨0, 0, rfl, by omega, by omega, by intro i hi; omega, rfl⟩
    | skip
  all_goals
    obtain ⟨j, q, rfl, hja, hjb, hsh, rfl⟩ := hrel
    by_cases hlt : j < a.size ∧ j < b.size
    · obtain ⟨h1, h2⟩ := hlt
      have i1 := fun w => run_idx a j h1 w
      have i2 := fun w => run_idx b j h2 w
      have g1 : (kb a)[j]? = some ((kb a).getD j 0) := by rw [List.getD_eq_getElem?_getD, List.getElem?_eq_getElem (by rw [kb_len]; exact h1)]; rfl
      have g2 : (kb b)[j]? = some ((kb b).getD j 0) := by rw [List.getD_eq_getElem?_getD, List.getElem?_eq_getElem (by rw [kb_len]; exact h2)]; rfl
      generalize (kb a).getD j 0 = x at i1 g1
      generalize (kb b).getD j 0 = y at i2 g2
      have hg := Lib.hid (And.intro g1 g2)
      clear g1 g2
      go_wp2_with fail
      go_still (by kernel_rfl)
      by_cases hxy : x = y
      · subst hxy
        go_wp2
        go_roundw
        case rel => exact ⟨j + 1, q + 1, by simp, by omega, by omega, fun i hi => by
          by_cases hij : i = j
          · rw [hij, hg.out.1, hg.out.2]
          · exact hsh.out i (by omega), rfl⟩
        case measure => simp [intOf]; omega
      · have hxn : ((x.toNat : Int) != (y.toNat : Int)) = true := by
          have : ¬ x.toNat = y.toNat := fun h => hxy (UInt8.toNat_inj.1 h)
          rw [bne_iff_ne]; omega
        go_wp2
        go_ret
        refine ⟨?_, q + 1, rfl⟩
        rw [shared_of (kb a) (kb b) j (by rw [kb_len]; omega) (by rw [kb_len]; omega) hsh.out (.inr (by rw [hg.out.1, hg.out.2]; simpa using hxy))]
        rfl
    · have hmin := Lib.hid (show j = min a.size b.size by omega)
      go_wp2
      go_ret
      refine ⟨?_, q, rfl⟩
      rw [shared_of (kb a) (kb b) j (by rw [kb_len]; omega) (by rw [kb_len]; omega) hsh.out (.inl (by rw [kb_len, kb_len]; exact hmin.out))]
      have := hmin.out
      first | rfl | (exact ret_int (by omega))
instance (ck : Nat) (s : ByteArray) : Decidable (KeyOk ck s) := by unfold KeyOk; infer_instance
set_option maxHeartbeats 1000000 in
theorem node_key (q : Cn) (s : ByteArray) : Calls Tryz.prog 41 #[q.c.v, .string s] w fun e w' => e = .returned (.bool (decide (KeyOk q.key s))) ∧ St w (FP w []) w' [] := by
  have S0 := St.nil w
  have hy : Hid ((1 ≤ s.size ∧ s.size ≤ q.key) → decide (KeyOk q.key s) = true) := by show _ → _; intro h; exact decide_eq_true h
  have hn : Hid (¬ (1 ≤ s.size ∧ s.size ≤ q.key) → decide (KeyOk q.key s) = false) := by show _ → _; intro h; exact decide_eq_false h
  generalize decide (KeyOk q.key s) = r at *
  generalize FP w [] = F at *
  obtain ⟨blocks, bytes, frames, fan, buffer, leaf, ck, cv⟩ := q
  unfold Cn.c Cfg.v Cfg.cells
  dsimp only at *
  by_cases h1 : 1 ≤ s.size
  · have k1 : decide ((1 : Int) ≤ (s.size : Int)) = true := by simp; omega
    by_cases h2 : s.size ≤ ck
    · have k2 : decide ((s.size : Int) ≤ (ck : Int)) = true := by simp; omega
      go_enter Tryz.func41, Tryz.ntmps41
      go_wp2_with (refine wpl_box S0 rfl _ _ rfl _ rfl ?_)
      intro g w1 hg S1
      have c6 := S1.cell 0 rfl 6 rfl
      go_wp2
      go_ret
      exact ⟨ret_bool (hy.out ⟨h1, h2⟩).symm, S1.right (A := [_])⟩
    · have k2 : decide ((s.size : Int) ≤ (ck : Int)) = false := by simp; omega
      go_enter Tryz.func41, Tryz.ntmps41
      go_wp2_with (refine wpl_box S0 rfl _ _ rfl _ rfl ?_)
      intro g w1 hg S1
      have c6 := S1.cell 0 rfl 6 rfl
      go_wp2
      go_ret
      exact ⟨ret_bool (hn.out (fun h => h2 h.2)).symm, S1.right (A := [_])⟩
  · have k1 : decide ((1 : Int) ≤ (s.size : Int)) = false := by simp; omega
    go_enter Tryz.func41, Tryz.ntmps41
    go_wp2_with (refine wpl_box S0 rfl _ _ rfl _ rfl ?_)
    intro g w1 hg S1
    go_wp2
    go_ret
    exact ⟨ret_bool (hn.out (fun h => h1 h.1)).symm, S1.right (A := [_])⟩
set_option maxHeartbeats 1000000 in
theorem lex_cut (a b : ByteArray) (h : kcmp a b < 0) (ha : a.size ≤ 100000) (hb : b.size ≤ 100000) : Calls Tryz.prog 51 #[.string a, .string b] w fun e w' => e = .returned (.tuple #[.string (kcut a b), .bool true]) ∧ ∃ q, w' = w.drewN q := by
  have hsh := Lib.hid (fun w => lex_shared w a b ha hb)
  have hlt := (shared_lt (kcmp_lt.1 h)).1
  rw [kb_len] at hlt
  have hl : Op.bytesLess a.toList b.toList = true := by rw [kless]; exact decide_eq_true h
  have hcut : Hid (kcut a b = b.extract 0 (shared (kb a) (kb b) + 1)) := by show _ = _; rfl
  generalize kcut a b = res at *
  generalize shared (kb a) (kb b) = n at *
  clear h ha
  go_enter Tryz.func51, Tryz.ntmps51
  go_wp2_with (go_at_call 79; refine (hsh.out _).mono ?_; rintro e w' ⟨rfl, q, rfl⟩)
  go_ret2
  exact ⟨by rw [hcut.out]; rfl, _, rfl⟩
end
end Go.Proofs.YtnobknmhffaoeaaGreatDoor
namespace Go.Proofs.YtnobknmhffaoeaaGreatDoor
open Go.RowKit
def riseB : List ByteArray → Bool
  | a :: b :: l => decide (kcmp a b < 0) && riseB (b :: l)
  | _ => true
theorem riseB_iff : ∀ l : List ByteArray, riseB l = true ↔ Rise l
  | [] => by simp [riseB, Rise]
  | [a] => by
    simp only [riseB, true_iff]
    intro i x y hx hy
    have := (List.getElem?_eq_some_iff.1 hy).1
    simp at this
  | a :: b :: l => by
    have ih := riseB_iff (b :: l)
    unfold riseB
    rw [Bool.and_eq_true, ih]
    constructor
    · rintro ⟨h1, h2⟩ i x y hx hy
      cases i with
      | zero => simp at hx hy; subst hx; subst hy; simpa using h1
      | succ i => exact h2 i x y (by simpa using hx) (by simpa using hy)
    · intro h
      refine ⟨by simpa using h 0 a b rfl rfl, fun i x y hx hy => h (i + 1) x y (by simpa using hx) (by simpa using hy)⟩
theorem riseStep {l : List ByteArray} {i : Nat} {a b : ByteArray} (ha : l[i]? = some a) (hb : l[i + 1]? = some b) (h : ¬ kcmp a b < 0) : ¬ Rise l := fun hr => h (hr i a b ha hb)
section
variable (w : World)
set_option maxRecDepth 100000 in
set_option maxHeartbeats 2000000 in
theorem leaf_right (v : Value) (l : List Pr) (hr : Rd ePr w v l) (hl : l.length ≤ 100000) : Calls Tryz.prog 38 #[v] w fun e w' => e = .returned (.bool (riseB (l.map Pr.key))) ∧ ∃ q, w' = w.drewN q := by
  have hy : Hid (Rise (l.map Pr.key) → riseB (l.map Pr.key) = true) := (riseB_iff _).2
  have hno : Hid (¬ Rise (l.map Pr.key) → riseB (l.map Pr.key) = false) := by
    show _ → _
    intro h
    cases hb : riseB (l.map Pr.key) with
    | false => rfl
    | true => exact absurd ((riseB_iff _).1 hb) h
  generalize riseB (l.map Pr.key) = res at *
  have hcmp := Lib.hid (fun w a b => lex_compare w a b)
  obtain ⟨B, cc, rfl, h1, h2⟩ := hr.slice
  replace hr := Lib.hid hr
  obtain ⟨n, hn⟩ : ∃ n, n = l.length := ⟨_, rfl⟩
  rw [← hn] at hl ⊢
  replace hn := Lib.hid hn
  clear h1 h2
  go_enter Tryz.func38, Tryz.ntmps38
  go_wp2
  go_loopw [7] (fun vj wr => ∃ (j q : Nat), vj = .int .i64 j ∧ (j = 0 ∨ j + 1 ≤ n) ∧ Hid (∀ i a b, i < j → (l.map Pr.key)[i]? = some a → (l.map Pr.key)[i + 1]? = some b → kcmp a b < 0) ∧ Hid (wr = w.drewN q)) (fun vj _ => n + 1 - (intOf vj).toNat)
  case atStart => exact ⟨0, 0, rfl, .inl rfl, by intro i a b hi; omega, rfl⟩
  case round =>
    obtain ⟨j, q, rfl, hj, hsh, hwr⟩ := hrel
    by_cases hlt : j + 1 < n
    · have hj1 : j < n := by omega
      have hj2 : (j : Int) + 1 < (n : Int) := by omega
      have hj3 : ((j : Int) + 1).toNat = j + 1 := by omega
      have hj4 : (0 : Int) ≤ (j : Int) + 1 := by omega
      have hl1 : j < l.length := by rw [← hn.out]; omega
      have hl2 : j + 1 < l.length := by rw [← hn.out]; omega
      have g1 := List.getElem?_eq_getElem hl1
      have g2 := List.getElem?_eq_getElem hl2
      generalize l[j] = x at g1
      generalize l[j + 1] = y at g2
      obtain ⟨b, off, rfl, hc1⟩ := hr.out.get g1
      obtain ⟨b', off', he, hc2⟩ := hr.out.get g2
      injection he with he; injection he with e1 e2; subst e1; subst e2
      have c1 : wr.cell? ⟨b, off + j * 2, none⟩ = some (.string x.key) := by rw [hwr.out]; exact hc1 0 _ rfl
      have c2 : wr.cell? ⟨b, off + (j + 1) * 2, none⟩ = some (.string y.key) := by rw [hwr.out]; exact hc2 0 _ rfl
      have m1 : (l.map Pr.key)[j]? = some x.key := by rw [List.getElem?_map, g1]; rfl
      have m2 : (l.map Pr.key)[j + 1]? = some y.key := by rw [List.getElem?_map, g2]; rfl
      have hm := Lib.hid (And.intro m1 m2)
      have hx := Lib.hid (fun w => hcmp.out w x.key y.key)
      have hc : ∀ r, r = kcmp x.key y.key → Hid (r = kcmp x.key y.key) := fun r h => Lib.hid h
      obtain ⟨r, hrr⟩ : ∃ r, r = kcmp x.key y.key := ⟨_, rfl⟩
      rw [← hrr] at hx
      replace hrr := Lib.hid hrr
      clear hc m1 m2 g1 g2 hl1 hl2 hc1 hc2
      go_wp2
      go_quiet (first | (go_at_call 68; refine Calls.quiet_of_same ((hx.out _).mono fun _ _ ⟨a, b⟩ => ⟨a, b.symm⟩)))
      by_cases hneg : r < 0
      · go_wp2
        go_roundw
        case rel => 
          refine ⟨j + 1, q + nq, by simp, by omega, fun i a b hi ha hb => ?_, by show _ = _; rw [hwr.out, drewN_two]⟩
          by_cases hij : i = j
          · subst hij
            rw [hm.out.1] at ha; rw [hm.out.2] at hb
            injection ha with ha; injection hb with hb; subst ha; subst hb
            rw [← hrr.out]; exact hneg
          · exact hsh.out i a b (by omega) ha hb
        case measure => simp [intOf]; omega
      · go_wp2
        go_ret
        exact ⟨ret_bool (hno.out (riseStep hm.out.1 hm.out.2 (by rw [← hrr.out]; omega))).symm, q + nq, by rw [hwr.out, drewN_two]⟩
    · go_wp2
      go_ret
      refine ⟨ret_bool (hy.out fun i a b ha hb => hsh.out i a b ?_ ha hb).symm, q, hwr.out⟩
      have := (List.getElem?_eq_some_iff.1 hb).1
      rw [List.length_map, ← hn.out] at this
      omega
end
end Go.Proofs.YtnobknmhffaoeaaGreatDoor
