/- What every row of this seat wants: the listed table, settings as an argument, and the row's post behind a call that only makes memory. -/
import Derived.Test.YtnobknmhffaoeaaGreatDoorRows
import Derived.Test.YtnobknmhffaoeaaGreatDoorQCounts
import Derived.ProofKit
import Derived.OpenShut
import Derived.LaidMore
import Derived.Lay
import Derived.Stop.Joined
set_option linter.unusedVariables false
set_option linter.unusedSimpArgs false
namespace Go.Proofs.YtnobknmhffaoeaaGreatDoor
open Go.ChangeShapes Go.WideShapes Go.ChangeAt Go.RowKit
theorem own : ownKnob Tryz.prog.godebug = none := by kernel_rfl
abbrev laidL {H : Type} : List (String × DataW H) := [("math/bits.deBruijn64tab", Rows.laid_math_bits_deBruijn64tab)]
theorem tab_under : (Tryz.prog.globals[1]?).bind (fun g => Tryz.prog.underlying g.type) = some (.array 64 5) := by kernel_rfl
theorem tab_datum {H : Type} : (Rows.laid_math_bits_deBruijn64tab : DataW H) = .agg (Lib.deBruijn64tab.map fun n : Nat => .lit (.int .u8 n)) := by rfl
set_option maxRecDepth 100000 in
theorem tab_cells {W : World} (h : laidMetH Tryz.prog laidL W) : ∀ r, r < 64 → W.cell? ⟨1, r, none⟩ = some (.int .u8 (Lib.deBruijn64tab.getD r 0)) := by
  intro r hr
  rw [MakeChecks.laidMetH_plain _ _ _ (by kernel_rfl)] at h
  obtain ⟨ps, ⟨g, t, cs, fuel, p, q, hg, ht, hv, hd, _, _⟩, _, _⟩ := h
  obtain rfl := Option.some.inj ((show Tryz.prog.globalNamed "math/bits.deBruijn64tab" = some 1 by kernel_rfl).symm.trans hg)
  have hu : Tryz.prog.underlying t = some (.array 64 5) := by
    have h1 := tab_under
    cases hx : Tryz.prog.globals[1]? with
    | none => rw [hx] at ht; cases ht
    | some gg => rw [hx] at h1 ht; injection ht with ht; subst ht; exact h1
  obtain ⟨xs, m, _, ex, _, hl, hel⟩ := DataW.trod_array hu hd
  have c5 : Tryz.prog.cellsOf 5 = 1 := by kernel_rfl
  have hE := hel r hr
  rw [c5, Nat.mul_one, List.getElem?_eq_getElem (by omega)] at hE
  obtain ⟨z, e1, e2, _⟩ := DataW.trod_int Tryz.underlying5 hE
  have hlen : Lib.deBruijn64tab.length = 64 := by rfl
  rw [tab_datum] at ex
  have e3 : (xs.map (·.1)) = Lib.deBruijn64tab.map fun n : Nat => .lit (.int .u8 n) := (DataW.agg.inj (Prod.mk.inj ex).1).symm
  have e4 : (xs.map (·.1))[r]? = (Lib.deBruijn64tab.map fun n : Nat => (DataW.lit (.int .u8 n) : DataW Unit))[r]? := by rw [e3]
  rw [List.getElem?_map, List.getElem?_map, List.getElem?_eq_getElem (by omega : r < xs.length), List.getElem?_eq_getElem (by omega : r < Lib.deBruijn64tab.length), e2] at e4
  have hz : z = Lib.deBruijn64tab.getD r 0 := by
    simp only [Option.map_some, Option.some.injEq, DataW.lit.injEq, Lit.int.injEq, true_and] at e4
    rw [e4, List.getD, List.getElem?_eq_getElem (by omega : r < Lib.deBruijn64tab.length)]; rfl
  rw [World.var?_cell hg hv r, ← hz]
  have : cs.toList[r]? = some (.int .u8 z) := by
    have h0 : ((cs.toList.drop r).take 1)[0]? = some (.int .u8 z) := by rw [e1]; rfl
    simpa using h0
  simpa using this
theorem tab_block {W : World} (h : ∀ r, r < 64 → W.cell? ⟨1, r, none⟩ = some (.int .u8 (Lib.deBruijn64tab.getD r 0))) : ∃ t, TabO t ∧ HC W (tabB t) := by
  cases hb : W.heap[1]? with
  | none =>
    have := h 0 (by omega)
    unfold World.cell? at this
    rw [hb] at this; cases this
  | some o =>
    have h0 := h 0 (by omega)
    unfold World.cell? at h0
    rw [hb] at h0
    cases o with
    | cells c e fr =>
      refine ⟨_, ⟨c, e, fr, rfl, fun j hj => ?_⟩, by simp, fun p hp => ?_⟩
      · have hj' := h j hj
        unfold World.cell? at hj'
        rw [hb] at hj'
        exact hj'
      · simp only [tabB, List.mem_singleton] at hp
        subst hp
        exact hb
    | _ => cases h0
/-- What a law's row wants behind a call that only made memory, where no argument reaches memory that may turn. -/
theorem St.below1 {w w' : World} {t : Obj} (H : HC w (tabB t)) (S : St w (FP w (tabB t)) w' (tabB t)) : Below w.heap.size w w' := by
  refine ⟨S.os, S.tape, S.output, S.size, fun k hk => ?_⟩
  by_cases hk1 : k = 1
  · subst hk1
    rw [S.hc.2 (_, t) (List.mem_singleton.2 rfl), H.2 (_, t) (List.mem_singleton.2 rfl)]
  · refine S.kept k hk (fun hf => ?_)
    rcases hf with hf | hf
    · simp [keysOf] at hf; exact hk1 hf
    · omega
section
variable {H : Type} {enc : TypeId × Value → H} {P : Program}
theorem post_below {f : Func} {s : ChangeSpec} {apart fresh handsOn again : Bool} {W W' : World} {args : Array Value} {v : Value} {ds gs : List (DataW H)} {before pa pv : List MemPlace}
    (hW : DataW.Whole enc P f.params.toList s.vars apart W args.toList ds gs before) (hB : Below W.heap.size W W')
    (hres : ∀ (b : Nat) (sp : Nat → Bool) (hd : Bool), DataW.TrodAll enc P W' b sp hd f.resultTypes.toList (v.resultList f.resultTypes.size) (s.fn H (ds ++ gs)).results [])
    (hargs : ∀ sp : Nat → Bool, (∀ p ∈ before, sp p.block = true) → DataW.TrodAll enc P W' 0 sp true f.params.toList args.toList (s.fn H (ds ++ gs)).args pa)
    (hvars : ∀ sp : Nat → Bool, (∀ p ∈ before, sp p.block = true) → DataW.TrodVars enc P W' sp s.vars (s.fn H (ds ++ gs)).vars pv)
    (hps : before = pa ++ pv)
    (hok : ∀ (j : Nat) (t : TypeId) (r : Value), f.resultTypes[j]? = some t → (v.resultList f.resultTypes.size)[j]? = some r → Value.okWide P W' .any 0 t r) :
    s.post enc P f apart fresh handsOn again W args v W' := by
  have hlt : ∀ p ∈ before, p.block < W.heap.size := fun p hp => hW.lt p hp
  have hold : ∀ p ∈ before, (fun b => decide (b < W.heap.size)) p.block = true := fun p hp => by simpa using hlt p hp
  refine ⟨ds, gs, before, [], pa, pv, hW, hres _ _ _, hargs _ hold, hvars _ hold, World.keptBut_mono (fun p hp => ⟨hp, ?_⟩) (hB.frame (· ∈ before)), fun _ => ?_⟩
  · rw [hps, List.mem_append] at hp
    exact Or.inr hp
  · obtain ⟨_, _, _, _, _, hz, hn⟩ := hW
    refine ⟨hok, _, _, ([] ++ pa) ++ pv, ⟨[] ++ pa, pv, trodAll_append (hargs _ (fun _ _ => rfl)) (hres _ _ _), hvars _ (fun _ _ => rfl), rfl, ?_, ?_⟩, ?_⟩
    · intro b off hp
      have hm : MemPlace.cell b off ∈ before := by rw [hps]; simpa using hp
      rw [hB.frozen (show b < W.heap.size from hlt _ hm)]
      exact hz b off hm
    · intro ha
      have := hn ha
      rw [hps] at this
      simpa using this
    · intro p hp _
      rw [hps]
      simpa using hp
set_option maxRecDepth 100000 in
/-- Settings as an argument. -/
theorem open_cfg {r : Reach} {b0 : Nat} {w : World} {base : Nat} {spare : Nat → Bool} {held : Bool} {v : Value} {d : DataW H} {ps : List MemPlace} (hval : Value.okWide Tryz.prog w r b0 23 v) (hd : DataW.Trod enc Tryz.prog w base spare held 23 v d ps) :
    ∃ c : Cfg, v = c.v ∧ ps = [] ∧ ∀ (w' : World) (b' : Nat) (sp : Nat → Bool) (hd' : Bool), DataW.Trod enc Tryz.prog w' b' sp hd' 23 v d [] := by
  obtain ⟨cs, rfl, hsz⟩ := okWide_struct Tryz.underlying23 hval
  obtain ⟨fuel, hf⟩ := hd
  obtain ⟨xs, n, rfl, hx, hl, hlen, hel⟩ := DataW.trod_struct Tryz.underlying23 hf
  have c3 : Tryz.prog.cellsOf 3 = 1 := by kernel_rfl
  have c23 : Tryz.prog.cellsOf 23 = 8 := by kernel_rfl
  have hcs : (Value.agg cs).cells.toList = cs.toList := rfl
  rw [hcs] at hl hel
  rw [c23] at hl
  have e0 := hel 0 _ rfl
  have e1 := hel 1 _ rfl
  have e2 := hel 2 _ rfl
  have e3 := hel 3 _ rfl
  have e4 := hel 4 _ rfl
  have e5 := hel 5 _ rfl
  have e6 := hel 6 _ rfl
  have e7 := hel 7 _ rfl
  obtain ⟨l⟩ := cs
  match l, hl, xs, hlen with
  | [a0, a1, a2, a3, a4, a5, a6, a7], _, [x0, x1, x2, x3, x4, x5, x6, x7], _ =>
    simp only [c3, List.drop_zero, List.drop_succ_cons, List.take_succ_cons, List.take_zero, List.getElem?_cons_zero, List.getElem?_cons_succ] at e0 e1 e2 e3 e4 e5 e6 e7
    obtain ⟨z0, h0, rfl, w0⟩ := DataW.trod_int Tryz.underlying3 e0
    obtain ⟨z1, h1, rfl, w1⟩ := DataW.trod_int Tryz.underlying3 e1
    obtain ⟨z2, h2, rfl, w2⟩ := DataW.trod_int Tryz.underlying3 e2
    obtain ⟨z3, h3, rfl, w3⟩ := DataW.trod_int Tryz.underlying3 e3
    obtain ⟨z4, h4, rfl, w4⟩ := DataW.trod_int Tryz.underlying3 e4
    obtain ⟨z5, h5, rfl, w5⟩ := DataW.trod_int Tryz.underlying3 e5
    obtain ⟨z6, h6, rfl, w6⟩ := DataW.trod_int Tryz.underlying3 e6
    obtain ⟨z7, h7, rfl, w7⟩ := DataW.trod_int Tryz.underlying3 e7
    injection h0 with h0; injection h1 with h1; injection h2 with h2; injection h3 with h3; injection h4 with h4; injection h5 with h5; injection h6 with h6; injection h7 with h7
    subst h0 h1 h2 h3 h4 h5 h6 h7
    injection hx with hd hp
    subst hd hp
    refine ⟨⟨z0, z1, z2, z3, z4, z5, z6, z7⟩, rfl, rfl, fun w' b' sp hd' => ?_⟩
    have ti : ∀ z : Int, (Lit.int .i64 z).wf = true → DataW.trod enc Tryz.prog w' b' sp hd' 1 3 [.int .i64 z] = some (.lit (.int .i64 z), []) := fun z hz => by
      simp [DataW.trod, Tryz.underlying3, hz]
    refine ⟨2, trod_struct_mk (n := 1) (xs := [(.lit (.int .i64 z0), []), (.lit (.int .i64 z1), []), (.lit (.int .i64 z2), []), (.lit (.int .i64 z3), []), (.lit (.int .i64 z4), []), (.lit (.int .i64 z5), []), (.lit (.int .i64 z6), []), (.lit (.int .i64 z7), [])]) Tryz.underlying23 (by rw [c23]; rfl) ?_⟩
    simp only [List.mapM_cons, List.mapM_nil, c3, Value.cells, List.drop_zero, List.drop_succ_cons, List.take_succ_cons, List.take_zero, ti _ w0, ti _ w1, ti _ w2, ti _ w3, ti _ w4, ti _ w5, ti _ w6, ti _ w7]
    rfl
end
end Go.Proofs.YtnobknmhffaoeaaGreatDoor
