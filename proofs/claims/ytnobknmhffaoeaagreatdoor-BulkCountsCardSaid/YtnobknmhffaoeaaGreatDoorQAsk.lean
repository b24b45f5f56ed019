/- slices.ContainsFunc: a predicate asked of each element till one says yes. Printed by gen_contains.py. lex.All, lex.In of all; the closures that ask a pair, and a pivot. node.outer, of a leaf that is right. -/
import Derived.Test.YtnobknmhffaoeaaGreatDoorQNode
set_option linter.unusedVariables false
set_option linter.unusedSimpArgs false
namespace Go.Proofs.YtnobknmhffaoeaaGreatDoor
open Go.RowKit
/-- What the predicate owes: in whatever world that has what was there, of each element, it tells p, and turns nothing. -/
def Asks {α : Type} (P : Program) (g : Nat) (lb : Array Value) (val : α → Value) (p : α → Bool) (w : World) (xs : List α) : Prop :=
  ∀ w1, St w (FP w []) w1 [] → ∀ x ∈ xs, Calls P g (#[val x] ++ lb) w1 fun e w2 => e = .returned (.bool (p x)) ∧ St w1 (FP w1 []) w2 []

section
variable (w : World)
set_option maxRecDepth 100000 in
set_option maxHeartbeats 2000000 in
theorem index_pair (v : Value) (xs : List Pr) (hr : Rd ePr w v xs) (hl : xs.length ≤ 100000) (g : Nat) (lb : Array Value) (p : Pr → Bool) (hp : Asks Tryz.prog g lb (fun x => .agg #[.string x.key, .string x.val]) p w xs)
    (eg : ∀ args w, (callFunc g args).run Tryz.prog w = .ok (.enter g args) w) :
    Calls Tryz.prog 69 #[v, .func (.func g) #[] lb] w fun e w' => (∃ i : Int, e = .returned (.int .i64 i) ∧ Hid ((xs.any p = true → 0 ≤ i) ∧ (xs.any p = false → i = -1))) ∧ St w (FP w []) w' [] := by
  obtain ⟨B, cc, rfl, h1, h2⟩ := hr.slice
  replace hr := Lib.hid hr
  replace hp := Lib.hid hp
  obtain ⟨n, hn⟩ : ∃ n, n = xs.length := ⟨_, rfl⟩
  rw [← hn] at hl ⊢
  replace hn := Lib.hid hn
  have S0 := St.nil w
  have hF : ∀ k, FP w [] k → FP w [] k := fun _ h => h
  clear h1 h2
  go_enter Tryz.func69, Tryz.ntmps69
  go_wp2
  go_loopw [8] (fun vj wr => ∃ (j : Nat), vj = .int .i64 j ∧ j ≤ n ∧ Hid ((xs.take j).any p = false) ∧ Hid (St w (FP w []) wr [])) (fun vj _ => n - (intOf vj).toNat)
  case atStart => exact ⟨0, rfl, by omega, by simp [Hid], S0⟩
  case round =>
    obtain ⟨j, rfl, hj, hany, hS⟩ := hrel
    by_cases hlt : j < n
    · have g1 := List.getElem?_eq_getElem (show j < xs.length by rw [← hn.out]; exact hlt)
      generalize xs[j]'(by rw [← hn.out]; exact hlt) = x at g1
      obtain ⟨b, off, rfl, hc⟩ := (hr.out.st hS.out).get g1
      have hcall := Lib.hid (hp.out wr hS.out x (List.mem_of_getElem? g1))
      have htk : Hid ((xs.take (j + 1)).any p = (p x || false)) := by
        show _ = _
        rw [List.take_add_one, g1, List.any_append, hany.out]; simp
      have hax : Hid (p x = true → xs.any p = true) := by
        show _ → _
        intro h; rw [List.any_eq_true]; exact ⟨x, List.mem_of_getElem? g1, h⟩
      have c0 : wr.cell? ⟨b, off + j * 2, none⟩ = some (.string x.key) := hc 0 _ rfl
      have c1 : wr.cell? ⟨b, off + j * 2 + 1, none⟩ = some (.string x.val) := hc 1 _ rfl
      clear g1 hc
      cases hpx : p x with
      | true =>
        rw [hpx] at hcall
        go_wp2_with (go_at_fn g; refine hcall.out.mono ?_; rintro e w2 ⟨rfl, S2⟩)
        go_ret
        exact ⟨⟨_, rfl, fun _ => by omega, fun h => by rw [hax.out hpx] at h; cases h⟩, hS.out.seq S2⟩
      | false =>
        rw [hpx] at hcall htk
        go_wp2_with (go_at_fn g; refine hcall.out.mono ?_; rintro e w2 ⟨rfl, S2⟩)
        go_roundw
        case rel => exact ⟨j + 1, by simp, by omega, htk.out, hS.out.seq S2⟩
        case measure => simp [intOf]; omega
    · go_wp2
      go_ret
      have hje : j = xs.length := by rw [← hn.out]; omega
      refine ⟨⟨_, rfl, fun h => ?_, fun _ => rfl⟩, hS.out⟩
      have := hany.out
      rw [hje, List.take_length] at this
      rw [this] at h; cases h
set_option maxHeartbeats 1000000 in
theorem contains_pair (v : Value) (xs : List Pr) (hr : Rd ePr w v xs) (hl : xs.length ≤ 100000) (g : Nat) (lb : Array Value) (p : Pr → Bool) (hp : Asks Tryz.prog g lb (fun x => .agg #[.string x.key, .string x.val]) p w xs)
    (eg : ∀ args w, (callFunc g args).run Tryz.prog w = .ok (.enter g args) w) :
    Calls Tryz.prog 39 #[v, .func (.func g) #[] lb] w fun e w' => e = .returned (.bool (xs.any p)) ∧ St w (FP w []) w' [] := by
  have h := Lib.hid (index_pair w v xs hr hl g lb p hp eg)
  clear hr hl hp eg
  generalize xs.any p = res at *
  go_enter Tryz.func39, Tryz.ntmps39
  go_wp2_with (go_at_call 69; refine h.out.mono ?_; rintro e w2 ⟨⟨i, rfl, hi⟩, S⟩)
  go_ret
  refine ⟨?_, S⟩
  cases res with
  | true => have := hi.out.1 rfl; simp [this]
  | false => have := hi.out.2 rfl; subst this; simp
end

section
variable (w : World)
set_option maxRecDepth 100000 in
set_option maxHeartbeats 2000000 in
theorem index_str (v : Value) (xs : List ByteArray) (hr : Rd eStr w v xs) (hl : xs.length ≤ 100000) (g : Nat) (lb : Array Value) (p : ByteArray → Bool) (hp : Asks Tryz.prog g lb (fun x => .string x) p w xs)
    (eg : ∀ args w, (callFunc g args).run Tryz.prog w = .ok (.enter g args) w) :
    Calls Tryz.prog 147 #[v, .func (.func g) #[] lb] w fun e w' => (∃ i : Int, e = .returned (.int .i64 i) ∧ Hid ((xs.any p = true → 0 ≤ i) ∧ (xs.any p = false → i = -1))) ∧ St w (FP w []) w' [] := by
  obtain ⟨B, cc, rfl, h1, h2⟩ := hr.slice
  replace hr := Lib.hid hr
  replace hp := Lib.hid hp
  obtain ⟨n, hn⟩ : ∃ n, n = xs.length := ⟨_, rfl⟩
  rw [← hn] at hl ⊢
  replace hn := Lib.hid hn
  have S0 := St.nil w
  have hF : ∀ k, FP w [] k → FP w [] k := fun _ h => h
  clear h1 h2
  go_enter Tryz.func147, Tryz.ntmps147
  go_wp2
  go_loopw [8] (fun vj wr => ∃ (j : Nat), vj = .int .i64 j ∧ j ≤ n ∧ Hid ((xs.take j).any p = false) ∧ Hid (St w (FP w []) wr [])) (fun vj _ => n - (intOf vj).toNat)
  case atStart => exact ⟨0, rfl, by omega, by simp [Hid], S0⟩
  case round =>
    obtain ⟨j, rfl, hj, hany, hS⟩ := hrel
    by_cases hlt : j < n
    · have g1 := List.getElem?_eq_getElem (show j < xs.length by rw [← hn.out]; exact hlt)
      generalize xs[j]'(by rw [← hn.out]; exact hlt) = x at g1
      obtain ⟨b, off, rfl, hc⟩ := (hr.out.st hS.out).get g1
      have hcall := Lib.hid (hp.out wr hS.out x (List.mem_of_getElem? g1))
      have htk : Hid ((xs.take (j + 1)).any p = (p x || false)) := by
        show _ = _
        rw [List.take_add_one, g1, List.any_append, hany.out]; simp
      have hax : Hid (p x = true → xs.any p = true) := by
        show _ → _
        intro h; rw [List.any_eq_true]; exact ⟨x, List.mem_of_getElem? g1, h⟩
      have c0 : wr.cell? ⟨b, off + j, none⟩ = some (.string x) := by have := hc 0 _ rfl; simpa [eStr] using this
      clear g1 hc
      cases hpx : p x with
      | true =>
        rw [hpx] at hcall
        go_wp2_with (go_at_fn g; refine hcall.out.mono ?_; rintro e w2 ⟨rfl, S2⟩)
        go_ret
        exact ⟨⟨_, rfl, fun _ => by omega, fun h => by rw [hax.out hpx] at h; cases h⟩, hS.out.seq S2⟩
      | false =>
        rw [hpx] at hcall htk
        go_wp2_with (go_at_fn g; refine hcall.out.mono ?_; rintro e w2 ⟨rfl, S2⟩)
        go_roundw
        case rel => exact ⟨j + 1, by simp, by omega, htk.out, hS.out.seq S2⟩
        case measure => simp [intOf]; omega
    · go_wp2
      go_ret
      have hje : j = xs.length := by rw [← hn.out]; omega
      refine ⟨⟨_, rfl, fun h => ?_, fun _ => rfl⟩, hS.out⟩
      have := hany.out
      rw [hje, List.take_length] at this
      rw [this] at h; cases h
set_option maxHeartbeats 1000000 in
theorem contains_str (v : Value) (xs : List ByteArray) (hr : Rd eStr w v xs) (hl : xs.length ≤ 100000) (g : Nat) (lb : Array Value) (p : ByteArray → Bool) (hp : Asks Tryz.prog g lb (fun x => .string x) p w xs)
    (eg : ∀ args w, (callFunc g args).run Tryz.prog w = .ok (.enter g args) w) :
    Calls Tryz.prog 127 #[v, .func (.func g) #[] lb] w fun e w' => e = .returned (.bool (xs.any p)) ∧ St w (FP w []) w' [] := by
  have h := Lib.hid (index_str w v xs hr hl g lb p hp eg)
  clear hr hl hp eg
  generalize xs.any p = res at *
  go_enter Tryz.func127, Tryz.ntmps127
  go_wp2_with (go_at_call 147; refine h.out.mono ?_; rintro e w2 ⟨⟨i, rfl, hi⟩, S⟩)
  go_ret
  refine ⟨?_, S⟩
  cases res with
  | true => have := hi.out.1 rfl; simp [this]
  | false => have := hi.out.2 rfl; subst this; simp
end
end Go.Proofs.YtnobknmhffaoeaaGreatDoor
namespace Go.Proofs.YtnobknmhffaoeaaGreatDoor
open Go.RowKit
abbrev noS : Value := .string ⟨#[]⟩
abbrev spanO : Obj := C 161 [noS, noS, .bool true]
abbrev spanV : Value := .agg #[noS, noS, .bool true]
abbrev cfgO (q : Cn) : Obj := C 23 q.c.cells
theorem HC.later {w w1 : World} {L R : Blocks} (H : HC w L) (S : St w (FP w []) w1 R) : HC w1 L :=
  ⟨H.1, fun p hp => by
    rw [S.kept p.1 (blk_lt' (H.2 p hp)) (fun h => by
      rcases h with h | h
      · simp [keysOf] at h
      · have := blk_lt' (H.2 p hp); omega)]
    exact H.2 p hp⟩
section
variable (w : World)
theorem lex_all : Calls Tryz.prog 93 #[] w fun e w' => e = .returned spanV ∧ St w (FP w []) w' [] := by
  have S0 := St.nil w
  go_enter Tryz.func93, Tryz.ntmps93
  go_wp2_with (refine wpl_alloc S0 rfl _ rfl _ (fun w => by first | exact Tryz.zeroValue161 w | kernel_rfl) ?_)
  intro g w1 hg S1
  have c0 := S1.cell 0 rfl 0 rfl
  have c1 := S1.cell 0 rfl 1 rfl
  have c2 := S1.cell 0 rfl 2 rfl
  have f0 := S1.frozen 0 rfl 0
  have f1 := S1.frozen 0 rfl 1
  have f2 := S1.frozen 0 rfl 2
  have S2 := Lib.hid (((S1.setCell 0 rfl 0 noS).setCell 0 rfl 1 noS).setCell 0 rfl 2 (.bool true))
  go_wp2
  refine ret_cell S2.out 0 rfl rfl rfl rfl _ Tryz.underlying161 rfl (by kernel_rfl) ?_
  exact ⟨rfl, S2.out.right (A := [_])⟩
theorem less_nil (s : ByteArray) : Op.bytesLess s.toList (⟨#[]⟩ : ByteArray).toList = false := by
  rw [kb_toList ⟨#[]⟩]
  cases s.toList <;> rfl
set_option maxHeartbeats 1000000 in
theorem lex_in (key : ByteArray) : Calls Tryz.prog 124 #[spanV, .string key] w fun e w' => e = .returned (.bool true) ∧ St w (FP w []) w' [] := by
  have S0 := St.nil w
  have hl := less_nil key
  have hl2 : Op.bytesLess key.toList [] = false := by cases key.toList <;> rfl
  go_enter Tryz.func124, Tryz.ntmps124
  go_wp2_with (refine wpl_box S0 rfl _ _ rfl _ rfl ?_)
  intro g w1 hg S1
  have c0 := S1.cell 0 rfl 0 rfl
  have c2 := S1.cell 0 rfl 2 rfl
  go_wp2
  go_ret
  exact ⟨rfl, S1.right (A := [_])⟩
def pairBad (q : Cn) (x : Pr) : Bool := !(decide (KeyOk q.key x.key)) || decide (q.val < x.val.size)
theorem pairBad_iff (q : Cn) (x : Pr) : pairBad q x = false ↔ PairOk q.key q.val x := by
  unfold pairBad PairOk
  simp
set_option maxRecDepth 100000 in
set_option maxHeartbeats 1000000 in
theorem ask_may (q : Cn) (gc : Nat) (H : HC w [(gc, cfgO q)]) (xs : List Pr) : Asks Tryz.prog 40 #[.pointer (some ⟨gc, 0, none⟩)] (fun x => .agg #[.string x.key, .string x.val]) (pairBad q) w xs := by
  intro w1 S x _
  have S0 : St w1 (FP w1 []) w1 [] := St.nil w1
  have H1 := H.later S
  have hb : Hid (pairBad q x = (!(decide (KeyOk q.key x.key)) || decide (q.val < x.val.size))) := by show _ = _; rfl
  have hkey := Lib.hid (fun w => node_key w q x.key)
  generalize pairBad q x = res at *
  generalize decide (KeyOk q.key x.key) = kk at *
  show Calls Tryz.prog 40 #[.agg #[.string x.key, .string x.val], .pointer (some ⟨gc, 0, none⟩)] w1 _
  have hne : gc ≠ w1.heap.size := fun e => by have := blk_lt' (H1.at_ 0 rfl); omega
  go_enter Tryz.func40, Tryz.ntmps40
  go_wp2_with (refine wpl_box S0 rfl _ _ rfl _ rfl ?_)
  intro g w2 hg S1
  have H2 : HC w2 [(gc, cfgO q)] := H1.later (R := [(g, C 40 [.string x.key, .string x.val])]) S1
  have c0 := S1.cell 0 rfl 0 rfl
  have c1 := S1.cell 0 rfl 1 rfl
  have hS1 := Lib.hid S1
  go_wp2_with (first | (refine wpl_loadrow H2.st 0 rfl rfl _ _ rfl rfl _ Tryz.underlying23 rfl (by kernel_rfl) ?_) | (go_at_call 41; refine (hkey.out _).mono ?_))
  rintro e w3 ⟨rfl, S3⟩
  have S4 := hS1.out.pure S3
  rw [List.nil_append] at S4
  have H3 := H2.later S3
  have d1 := S4.cell 0 rfl 1 rfl
  have d7 : w3.cell? ⟨gc, 7, none⟩ = some (.int .i64 (q.val : Nat)) := H3.st.cell 0 rfl 7 rfl
  have hS4 := Lib.hid S4
  clear S1 S4 S3
  cases kk with
  | false =>
    go_wp2
    go_ret
    exact ⟨by rw [hb.out]; rfl, hS4.out.right (A := [_])⟩
  | true =>
    by_cases hv : q.val < x.val.size
    · go_wp2
      go_ret
      exact ⟨by rw [hb.out]; simp [hv], hS4.out.right (A := [_])⟩
    · go_wp2
      go_ret
      exact ⟨by rw [hb.out]; simp [hv], hS4.out.right (A := [_])⟩
set_option maxRecDepth 100000 in
set_option maxHeartbeats 1000000 in
theorem ask_outer (q : Cn) (gc gs : Nat) (H : HC w [(gc, cfgO q), (gs, spanO)]) (xs : List Pr) : Asks Tryz.prog 123 #[.pointer (some ⟨gc, 0, none⟩), .pointer (some ⟨gs, 0, none⟩)] (fun x => .agg #[.string x.key, .string x.val]) (pairBad q) w xs := by
  intro w1 S x _
  have S0 : St w1 (FP w1 []) w1 [] := St.nil w1
  have H1 := H.later S
  have hb : Hid (pairBad q x = (!(decide (KeyOk q.key x.key)) || decide (q.val < x.val.size))) := by show _ = _; rfl
  have hkey := Lib.hid (fun w => node_key w q x.key)
  have hin := Lib.hid (fun w => lex_in w x.key)
  generalize pairBad q x = res at *
  generalize decide (KeyOk q.key x.key) = kk at *
  show Calls Tryz.prog 123 #[.agg #[.string x.key, .string x.val], .pointer (some ⟨gc, 0, none⟩), .pointer (some ⟨gs, 0, none⟩)] w1 _
  go_enter Tryz.func123, Tryz.ntmps123
  go_wp2_with (refine wpl_box S0 rfl _ _ rfl _ rfl ?_)
  intro g w2 hg S1
  have H2 : HC w2 [(gc, cfgO q), (gs, spanO)] := H1.later (R := [(g, C 40 [.string x.key, .string x.val])]) S1
  have c0 := S1.cell 0 rfl 0 rfl
  have hS1 := Lib.hid S1
  go_wp2_with (first | (refine wpl_loadrow H2.st 0 rfl rfl _ _ rfl rfl _ Tryz.underlying23 rfl (by kernel_rfl) ?_) | (go_at_call 41; refine (hkey.out _).mono ?_))
  rintro e w3 ⟨rfl, S3⟩
  have S4 := hS1.out.pure S3
  rw [List.nil_append] at S4
  have H3 := H2.later S3
  have d0 := S4.cell 0 rfl 0 rfl
  have hS4 := Lib.hid S4
  clear S1 S4 S3
  cases kk with
  | false =>
    go_wp2
    go_ret
    exact ⟨by rw [hb.out]; rfl, hS4.out.right (A := [_])⟩
  | true =>
    have s0 := H3.st.cell 1 rfl 0 rfl
    have s1 := H3.st.cell 1 rfl 1 rfl
    have s2 := H3.st.cell 1 rfl 2 rfl
    go_wp2_with (go_at_call 124; refine (hin.out _).mono ?_)
    rintro e w4 ⟨rfl, S5⟩
    have S6 := hS4.out.pure S5
    rw [List.nil_append] at S6
    have H4 := H3.later S5
    have e1 := S6.cell 0 rfl 1 rfl
    have e7 : w4.cell? ⟨gc, 7, none⟩ = some (.int .i64 (q.val : Nat)) := H4.st.cell 0 rfl 7 rfl
    have hS6 := Lib.hid S6
    clear S5 S6
    by_cases hv : q.val < x.val.size
    · go_wp2
      go_ret
      exact ⟨by rw [hb.out]; simp [hv], hS6.out.right (A := [_])⟩
    · go_wp2
      go_ret
      exact ⟨by rw [hb.out]; simp [hv], hS6.out.right (A := [_])⟩
set_option maxRecDepth 100000 in
set_option maxHeartbeats 1000000 in
theorem ask_inner (q : Cn) (gc : Nat) (H : HC w [(gc, cfgO q)]) (xs : List ByteArray) : Asks Tryz.prog 128 #[.pointer (some ⟨gc, 0, none⟩)] (fun x => .string x) (fun x => !decide (KeyOk q.key x)) w xs := by
  intro w1 S x _
  have H1 := H.later S
  have hkey := Lib.hid (fun w => node_key w q x)
  show Calls Tryz.prog 128 #[.string x, .pointer (some ⟨gc, 0, none⟩)] w1 fun e w2 => e = .returned (.bool (!decide (KeyOk q.key x))) ∧ St w1 (FP w1 []) w2 []
  generalize decide (KeyOk q.key x) = kk at *
  go_enter Tryz.func128, Tryz.ntmps128
  go_wp2_with (first | (refine wpl_loadrow H1.st 0 rfl rfl _ _ rfl rfl _ Tryz.underlying23 rfl (by kernel_rfl) ?_) | (go_at_call 41; refine (hkey.out _).mono ?_))
  rintro e w3 ⟨rfl, S3⟩
  go_wp2
  go_ret
  exact ⟨rfl, S3⟩
end
end Go.Proofs.YtnobknmhffaoeaaGreatDoor
namespace Go.Proofs.YtnobknmhffaoeaaGreatDoor
open Go.RowKit
theorem Rd.zero {α : Type} {E : Lay α} {w : World} {v : Value} (h : Rd E w v []) : ∃ A c, v = .slice A 0 c := by
  obtain ⟨A, c, rfl, _⟩ := h; exact ⟨A, c, rfl⟩
theorem cfg_cells (q : Cn) : (q.c.v).cells.toList = q.c.cells := by
  obtain ⟨a, b, c, d, e, f, g, h⟩ := q; rfl
theorem any_bad {q : Cn} {l : List Pr} (h : ∀ p ∈ l, PairOk q.key q.val p) : l.any (pairBad q) = false := by
  rw [List.any_eq_false]; intro p hp; rw [(pairBad_iff q p).2 (h p hp)]; simp
section
variable (w : World)
set_option maxRecDepth 100000 in
set_option maxHeartbeats 4000000 in
theorem node_outer (q : Cn) (hq : q.Good) (kv pv bv prv : Value) (l : List Pr) (hk : Rd (eNat .u32) w kv []) (hp : Rd eStr w pv []) (hb : Rd eMs w bv []) (hr : Rd ePr w prv l) (ho : OuterOk q.key q.val q.leaf l) :
    Calls Tryz.prog 106 #[q.c.v, spanV, .agg #[.int .i64 0, kv, pv, bv, prv]] w fun e w' => e = .returned (.bool true) ∧ St w (FP w []) w' [] := by
  have S0 := St.nil w
  obtain ⟨B1, c1, rfl⟩ := hk.zero
  obtain ⟨B2, c2, rfl⟩ := hp.zero
  obtain ⟨B3, c3, rfl⟩ := hb.zero
  obtain ⟨B4, c4, rfl, _, _⟩ := hr.slice
  have hl := ho.len
  have hl2 := hq.l2
  have hr' := Lib.hid hr
  have hrise : Hid (riseB (l.map Pr.key) = true) := (riseB_iff _).2 ho.rise
  have hbad : Hid (l.any (pairBad q) = false) := any_bad ho.each
  have k1 : decide ((q.leaf : Int) < (l.length : Int)) = false := by simp; omega
  have hlr := Lib.hid (fun w hr => leaf_right w (.slice B4 l.length c4) l hr (by omega))
  have hct := Lib.hid (fun w hr g lb hp eg => contains_pair w (.slice B4 l.length c4) l hr (by omega) g lb (pairBad q) hp eg)
  have eg : ∀ args w, (callFunc 123 args).run Tryz.prog w = .ok (.enter 123 args) w := enters_of Tryz.func123 (by kernel_rfl) rfl
  clear hk hp hb hr ho hl2
  generalize hn : l.length = n at *
  clear hn
  unfold Cfg.v
  go_enter Tryz.func106, Tryz.ntmps106
  go_wp2_with (refine wpl_box S0 rfl _ _ rfl _ rfl ?_)
  intro g3 w1 _ S1
  replace S1 : St w (FP w []) w1 [(g3, cfgO q)] := S1.cast (by first | rfl | rw [← cfg_cells]; rfl)
  go_wp2_with (refine wpl_box S1 rfl _ _ rfl _ rfl ?_)
  intro g4 w2 _ S2
  go_wp2_with (refine wpl_box S2 rfl _ _ rfl _ rfl ?_)
  intro g5 w3 _ S3
  have d1 := S3.cell 0 rfl 1 rfl
  have d2 := S3.cell 0 rfl 2 rfl
  have d3 := S3.cell 0 rfl 3 rfl
  have d4 := S3.cell 0 rfl 4 rfl
  have d5 : w3.cell? ⟨g3, 5, none⟩ = some (.int .i64 (q.leaf : Nat)) := S3.cell 2 rfl 5 rfl
  have hS3 := Lib.hid S3
  clear S0 S1 S2 S3
  have hlr1 := Lib.hid (hlr.out w3 (hr'.out.st hS3.out))
  rw [hrise.out] at hlr1
  go_wp2_with (go_at_call 38; refine hlr1.out.mono ?_; rintro e w4 ⟨rfl, qq, rfl⟩)
  have H4 : HC (w3.drewN qq) [(g3, cfgO q), (g4, spanO)] := ((hS3.out.drewN qq).hc.right (A := [_])).perm (List.Perm.swap _ _ _)
  have hct1 := Lib.hid (hct.out (w3.drewN qq) ((hr'.out.st hS3.out).drewN qq) _ _ (ask_outer _ q g3 g4 H4 l) eg)
  rw [hbad.out] at hct1
  have e4 : (w3.drewN qq).cell? ⟨g5, 4, none⟩ = some (.slice B4 n c4) := d4
  clear H4
  go_wp2_with (go_at_call 39; refine hct1.out.mono ?_; rintro e w5 ⟨rfl, S5⟩)
  go_ret
  have S6 := (hS3.out.drewN qq).pure S5
  exact ⟨rfl, St.right (A := [_, _, _]) (S6.cast (List.append_nil _).symm)⟩
end
end Go.Proofs.YtnobknmhffaoeaaGreatDoor
