/- The rows of a tree that is laid: each row's spots are right, and what the rows come to. No program is named. -/
import Derived.Test.YtnobknmhffaoeaaGreatDoorQAbove
set_option linter.unusedVariables false
set_option linter.unusedSimpArgs false
namespace Go.Proofs.YtnobknmhffaoeaaGreatDoor
open Go.RowKit
section
variable {α : Type} {l : List α} {i per : Nat} {x : α}
theorem part_head (hp : 1 ≤ per) (hx : l[i * per]? = some x) (d : α) : ((l.drop (i * per)).take per).headD d = x := by
  rw [List.headD_eq_head?_getD, List.head?_eq_getElem?, List.getElem?_take, if_pos (by omega), List.getElem?_drop, Nat.add_zero, hx]; rfl
theorem part_last (hp : 1 ≤ per) (hi : i * per < l.length) (hx : l[min (i * per + per) l.length - 1]? = some x) (d : α) : ((l.drop (i * per)).take per).getLastD d = x := by
  rw [List.getLastD_eq_getLast?, List.getLast?_eq_getElem?, List.length_take, List.length_drop, List.getElem?_take, if_pos (by omega), List.getElem?_drop,
    show i * per + (min per (l.length - i * per) - 1) = min (i * per + per) l.length - 1 by omega, hx]; rfl
end
theorem upN_in {n b i : Nat} (hb : 1 ≤ b) (hi : i < upN n b) : i * b < n := by
  unfold upN at hi
  rw [Nat.lt_div_iff_mul_lt (by omega)] at hi
  omega
theorem upN_half {n b : Nat} (h2 : 2 ≤ n) (hb : 8 ≤ b) : 2 * upN n b ≤ n := by
  have h1 : upN n b ≤ upN n 8 := by
    unfold upN
    rw [Nat.le_div_iff_mul_le (by omega)]
    have hd := Nat.div_mul_le_self (n + b - 1) b
    generalize (n + b - 1) / b = q at *
    rcases Nat.eq_zero_or_pos q with rfl | hq
    · omega
    · obtain ⟨p, rfl⟩ : ∃ p, q = p + 1 := ⟨q - 1, by omega⟩
      rw [Nat.add_mul] at hd ⊢
      have : p * 8 ≤ p * b := Nat.mul_le_mul_left _ hb
      omega
  have h3 : upN n 8 * 8 ≤ n + 7 := by unfold upN; have := Nat.div_mul_le_self (n + 8 - 1) 8; omega
  omega
section
variable {ck b0 : Nat} {row : List Spot}
theorem SpotsOk.far (h : SpotsOk ck b0 row) : ∀ (k i : Nat) (s t : Spot), row[i]? = some s → row[i + k + 1]? = some t → kcmp s.top t.low < 0 := by
  intro k
  induction k with
  | zero => intro i s t hs ht; exact h.next i s t hs ht
  | succ k ih =>
    intro i s t hs ht
    have hlt : i + k + 1 < row.length := by have := (List.getElem?_eq_some_iff.1 ht).1; omega
    have hu := List.getElem?_eq_getElem hlt
    generalize row[i + k + 1] = u at hu
    have h1 := ih i s u hs hu
    have h2 := h.next (i + k + 1) u t hu ht
    have h3 := (h.own u (List.mem_of_getElem? hu)).1
    exact kcmp_ge_lt (b := u.top) (fun h4 => h3 (kcmp_trans h4 h1)) h2
end
section
variable {q : Cn} {b0 : Nat} {row : List Spot}
theorem aRow_get {b m i : Nat} {s : Spot} (h : (aRow q b row m)[i]? = some s) : i < m ∧ s = aSpot q b row i := by
  unfold aRow at h
  rw [List.getElem?_map] at h
  obtain ⟨j, hj, rfl⟩ := Option.map_eq_some_iff.1 h
  have hlt := (List.getElem?_eq_some_iff.1 hj).1
  rw [List.length_range] at hlt
  rw [List.getElem?_range hlt] at hj
  injection hj with hj; subst hj
  exact ⟨hlt, rfl⟩
/-- The first and the last spot of a part. -/
theorem aSpot_of {b i : Nat} (h1 : 1 ≤ q.fan) (hi : i * q.fan < row.length) : ∃ s t, row[i * q.fan]? = some s ∧ row[min (i * q.fan + q.fan) row.length - 1]? = some t ∧ aSpot q b row i = ⟨b + i, s.low, t.top⟩ := by
  have hs := List.getElem?_eq_getElem hi
  have ht := List.getElem?_eq_getElem (show min (i * q.fan + q.fan) row.length - 1 < row.length by omega)
  refine ⟨_, _, hs, ht, ?_⟩
  unfold aSpot aPart
  rw [part_head h1 hs, part_last h1 hi ht]
theorem a_spots_ok (hf : 1 ≤ q.fan) (h : SpotsOk q.key b0 row) (b : Nat) : SpotsOk q.key b (aRow q b row (upN row.length q.fan)) := by
  refine ⟨fun i s hs => ?_, fun s hs => ?_, fun i s t hs ht => ?_⟩
  · obtain ⟨_, rfl⟩ := aRow_get hs; rfl
  · obtain ⟨i, hi⟩ := List.getElem?_of_mem hs
    obtain ⟨hlt, rfl⟩ := aRow_get hi
    have hin := upN_in hf hlt
    obtain ⟨x, y, hx, hy, he⟩ := aSpot_of (b := b) hf hin
    rw [he]
    have o1 := h.own x (List.mem_of_getElem? hx)
    have o2 := h.own y (List.mem_of_getElem? hy)
    refine ⟨?_, o1.2.1, o2.2.2⟩
    show ¬ kcmp y.top x.low < 0
    rcases Nat.lt_or_ge (i * q.fan) (min (i * q.fan + q.fan) row.length - 1) with hh | hh
    · have h3 := h.far (min (i * q.fan + q.fan) row.length - 1 - i * q.fan - 1) (i * q.fan) x y hx (by rw [show i * q.fan + (min (i * q.fan + q.fan) row.length - 1 - i * q.fan - 1) + 1 = min (i * q.fan + q.fan) row.length - 1 by omega]; exact hy)
      intro h4
      exact o2.1 (kcmp_trans (kcmp_lt_of_lt_le h4 o1.1) h3)
    · have e : min (i * q.fan + q.fan) row.length - 1 = i * q.fan := by omega
      rw [e, hx] at hy
      injection hy with hy; subst hy
      exact o1.1
  · obtain ⟨h1, rfl⟩ := aRow_get hs
    obtain ⟨h2, rfl⟩ := aRow_get ht
    have i2 := upN_in hf h2
    have i1 := upN_in hf h1
    obtain ⟨x, y, hx, hy, he⟩ := aSpot_of (b := b) hf i1
    obtain ⟨x', y', hx', hy', he'⟩ := aSpot_of (b := b) hf i2
    rw [he, he']
    show kcmp y.top x'.low < 0
    rw [Nat.add_mul, Nat.one_mul] at hx' i2
    refine h.next (i * q.fan + q.fan - 1) y x' ?_ ?_
    · rw [← hy]; congr 1; omega
    · rw [← hx']; congr 1; omega
end
section
variable {q : Cn} {per : Nat} {l : List Pr}
theorem leafRow_get {m i : Nat} {s : Spot} (h : (leafRow per l m)[i]? = some s) : i < m ∧ s = spotOf per l i := by
  unfold leafRow at h
  rw [List.getElem?_map] at h
  obtain ⟨j, hj, rfl⟩ := Option.map_eq_some_iff.1 h
  have hlt := (List.getElem?_eq_some_iff.1 hj).1
  rw [List.length_range] at hlt
  rw [List.getElem?_range hlt] at hj
  injection hj with hj; subst hj
  exact ⟨hlt, rfl⟩
theorem spotOf_of {i : Nat} (h1 : 1 ≤ per) (hi : i * per < l.length) : ∃ s t, l[i * per]? = some s ∧ l[min (i * per + per) l.length - 1]? = some t ∧ spotOf per l i = ⟨i + 1, s.key, t.key⟩ := by
  have hs := List.getElem?_eq_getElem hi
  have ht := List.getElem?_eq_getElem (show min (i * per + per) l.length - 1 < l.length by omega)
  refine ⟨_, _, hs, ht, ?_⟩
  unfold spotOf partL
  rw [part_head h1 hs, part_last h1 hi ht]
theorem rise_far (hup : Rise (l.map Pr.key)) : ∀ (k i : Nat) (s t : Pr), l[i]? = some s → l[i + k + 1]? = some t → kcmp s.key t.key < 0 := by
  intro k
  induction k with
  | zero => intro i s t hs ht; exact hup i s.key t.key (by rw [List.getElem?_map, hs]; rfl) (by rw [List.getElem?_map, ht]; rfl)
  | succ k ih =>
    intro i s t hs ht
    have hlt : i + k + 1 < l.length := by have := (List.getElem?_eq_some_iff.1 ht).1; omega
    have hu := List.getElem?_eq_getElem hlt
    generalize l[i + k + 1] = u at hu
    replace ht : l[i + k + 1 + 1]? = some t := ht
    exact kcmp_trans (ih i s u hs hu) (hup (i + k + 1) u.key t.key (by rw [List.getElem?_map, hu]; rfl) (by rw [List.getElem?_map, ht]; rfl))
theorem kcmp_irr (a : ByteArray) : ¬ kcmp a a < 0 := by
  rw [kcmp_lt]; exact List.lt_irrefl _
theorem leaf_spots_ok (h1 : 1 ≤ per) (hup : Rise (l.map Pr.key)) (he : ∀ p ∈ l, PairOk q.key q.val p) : SpotsOk q.key 1 (leafRow per l (upN l.length per)) := by
  refine ⟨fun i s hs => ?_, fun s hs => ?_, fun i s t hs ht => ?_⟩
  · obtain ⟨_, rfl⟩ := leafRow_get hs; show i + 1 = 1 + i; omega
  · obtain ⟨i, hi⟩ := List.getElem?_of_mem hs
    obtain ⟨hlt, rfl⟩ := leafRow_get hi
    obtain ⟨x, y, hx, hy, he'⟩ := spotOf_of h1 (upN_in h1 hlt)
    rw [he']
    refine ⟨?_, (he x (List.mem_of_getElem? hx)).1, (he y (List.mem_of_getElem? hy)).1⟩
    show ¬ kcmp y.key x.key < 0
    rcases Nat.lt_or_ge (i * per) (min (i * per + per) l.length - 1) with hh | hh
    · have h3 := rise_far hup (min (i * per + per) l.length - 1 - i * per - 1) (i * per) x y hx (by rw [show i * per + (min (i * per + per) l.length - 1 - i * per - 1) + 1 = min (i * per + per) l.length - 1 by omega]; exact hy)
      intro h4
      exact kcmp_irr _ (kcmp_trans h4 h3)
    · have := upN_in h1 hlt
      have e : min (i * per + per) l.length - 1 = i * per := by omega
      rw [e, hx] at hy
      injection hy with hy; subst hy
      exact kcmp_irr _
  · obtain ⟨hl1, rfl⟩ := leafRow_get hs
    obtain ⟨hl2, rfl⟩ := leafRow_get ht
    have i2 := upN_in h1 hl2
    obtain ⟨x, y, hx, hy, he1⟩ := spotOf_of h1 (upN_in h1 hl1)
    obtain ⟨x', y', hx', hy', he2⟩ := spotOf_of h1 i2
    rw [he1, he2]
    show kcmp y.key x'.key < 0
    rw [Nat.add_mul, Nat.one_mul] at hx' i2
    refine rise_far hup 0 (i * per + per - 1) y x' ?_ ?_
    · rw [← hy]; congr 1; omega
    · rw [← hx']; congr 1; omega
end
/-- The rows above a row: the last one, all that was laid, and how many rows lie above the first. -/
def climb (q : Cn) : Nat → Nat → List Spot → List (List UInt8) → List Spot × List (List UInt8) × Nat
  | 0, lev, row, made => (row, made, lev)
  | n + 1, lev, row, made => if 1 < row.length then climb q n (lev + 1) (aRow q (made.length + 1) row (upN row.length q.fan)) (made ++ aMade q (lev + 1) row (upN row.length q.fan)) else (row, made, lev)
/-- What holds of a row that stands. -/
structure RowOk (q : Cn) (lev : Nat) (row : List Spot) (made : List (List UInt8)) : Prop where
  ne : 1 ≤ row.length
  le : row.length ≤ made.length
  ok : 1 < row.length → SpotsOk q.key (made.length + 1 - row.length) row
  one : ∀ s, row = [s] → 1 ≤ s.block ∧ s.block = made.length
  lev : 2 ^ lev * row.length ≤ 65536
  room : made.length + (rowsFrom q.fan row.length).sum + 1 ≤ q.blocks + row.length
theorem rows_head (fan n : Nat) : n ≤ (rowsFrom fan n).sum := by
  unfold rowsFrom
  split <;> simp
theorem RowOk.low {q : Cn} {lev : Nat} {row : List Spot} {made : List (List UInt8)} (h : RowOk q lev row made) (h1 : 1 < row.length) : lev ≤ 15 := by
  have := h.lev
  rcases Nat.lt_or_ge lev 16 with h2 | h2
  · omega
  · have h3 : 2 ^ 16 ≤ 2 ^ lev := Nat.pow_le_pow_right (by omega) h2
    have h4 := Nat.mul_le_mul h3 h1
    omega
theorem RowOk.room' {q : Cn} {lev : Nat} {row : List Spot} {made : List (List UInt8)} (h : RowOk q lev row made) (hf : 2 ≤ q.fan) (h1 : 1 < row.length) : made.length + upN row.length q.fan < q.blocks := by
  have := h.room
  rw [rows_more h1 hf, List.sum_cons] at this
  have := rows_head q.fan (upN row.length q.fan)
  omega
theorem RowOk.next {q : Cn} (hf : 8 ≤ q.fan) {lev : Nat} {row : List Spot} {made : List (List UInt8)} (h : RowOk q lev row made) (h1 : 1 < row.length) :
    RowOk q (lev + 1) (aRow q (made.length + 1) row (upN row.length q.fan)) (made ++ aMade q (lev + 1) row (upN row.length q.fan)) := by
  have hp : 1 ≤ upN row.length q.fan := upN_pos h.ne (by omega)
  have hs := a_spots_ok (by omega) (h.ok h1) (made.length + 1)
  refine ⟨by rw [aRow_len]; exact hp, by rw [aRow_len, List.length_append, aMade_len]; omega, fun _ => ?_, fun s hs' => ?_, ?_, ?_⟩
  · rw [aRow_len, List.length_append, aMade_len, show made.length + upN row.length q.fan + 1 - upN row.length q.fan = made.length + 1 by omega]
    exact hs
  · have hl := congrArg List.length hs'
    rw [aRow_len] at hl
    have := hs.at_ 0 s (by rw [hs']; rfl)
    rw [List.length_append, aMade_len]
    simp at hl
    omega
  · rw [aRow_len, Nat.pow_succ, Nat.mul_assoc]
    exact Nat.le_trans (Nat.mul_le_mul_left _ (upN_half h1 hf)) h.lev
  · rw [aRow_len, List.length_append, aMade_len]
    have := h.room
    rw [rows_more h1 (by omega), List.sum_cons] at this
    omega
theorem leaf_row_ok {q : Cn} {per : Nat} {l : List Pr} (h1 : 1 ≤ per) (hup : Rise (l.map Pr.key)) (he : ∀ p ∈ l, PairOk q.key q.val p) (hl0 : l ≠ []) (hb : 1 + (rowsFrom q.fan (max 1 (upN l.length per))).sum ≤ q.blocks) (hq : q.blocks ≤ 65536) :
    RowOk q 0 (leafRow per l (upN l.length per)) (leafMade q per l (upN l.length per)) := by
  have hlen : 1 ≤ l.length := by cases l with
    | nil => exact absurd rfl hl0
    | cons _ _ => simp
  have hp : 1 ≤ upN l.length per := upN_pos hlen h1
  rw [show max 1 (upN l.length per) = upN l.length per by omega] at hb
  have hs := leaf_spots_ok (q := q) h1 hup he
  have := rows_head q.fan (upN l.length per)
  refine ⟨by rw [leafRow_len]; exact hp, by rw [leafRow_len, leafMade_len]; omega, fun _ => ?_, fun s hs' => ?_, ?_, ?_⟩
  · rw [leafRow_len, leafMade_len, show upN l.length per + 1 - upN l.length per = 1 by omega]
    exact hs
  · have hl := congrArg List.length hs'
    rw [leafRow_len] at hl
    have := hs.at_ 0 s (by rw [hs']; rfl)
    rw [leafMade_len]
    simp at hl
    omega
  · rw [leafRow_len]; omega
  · rw [leafRow_len, leafMade_len]; omega
end Go.Proofs.YtnobknmhffaoeaaGreatDoor
