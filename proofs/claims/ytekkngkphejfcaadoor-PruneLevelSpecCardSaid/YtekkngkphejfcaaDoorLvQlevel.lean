/- PruneLevelSpec: prune.Level answers as its second writing does, for every problem and every index. -/
import Derived.Test.YtekkngkphejfcaaDoorLvE
set_option linter.all false
namespace Go.Proofs.YtekkngkphejfcaaDoor.pruneLevelSpec
open Go.ChangeShapes Go.WideShapes Go.ChangeAt Go.RowKit
set_option maxRecDepth 100000 in
theorem sane_true (k : Nat) : sane (k + 200) = some true := by kernel_rfl
theorem lawLevel_true (q : ProbD) (i : Int) (hF : Fit q) : ∃ n, lawLevel n q i = some true := by
  refine ⟨szP q + 200, ?_⟩
  obtain ⟨b, hb⟩ := few_some (q := q) (pos := []) (n := szP q + 200) (by unfold szP; omega)
  unfold lawLevel lawLevel_l0
  rw [sane_true, Option.bind_some, hb, Option.bind_some, levelP_eq hF (by omega), rlevel_eq hF (by omega), Option.bind_some, Option.bind_some]
  cases b
  · rfl
  · simp
set_option maxRecDepth 100000 in
theorem contract (H : Type) (enc : TypeId × Value → H) (W : World) (base : Nat) (args : Array Value) (ds gs : List (DataW H)) (before : List MemPlace)
    (hval : ∀ (j : Nat) t v, Tryd.f3.params[j]? = some t → args[j]? = some v → Value.okWide Tryd.prog W .any base t v)
    (hW : DataW.Whole enc Tryd.prog Tryd.f3.params.toList Rows.pruneLevelSpecSpec.vars false W args.toList ds gs before)
    (hsz : (DataW.weightsEach Tryd.prog Tryd.f3.params.toList ds).all (· ≤ reachBytes) = true) (hL : laidMetH Tryd.prog Rows.pruneLevelSpecRow.laid W) :
    Calls Tryd.prog 3 args W fun e W' => ∃ v, e = .returned v ∧ Rows.pruneLevelSpecSpec.post enc Tryd.prog Tryd.f3 false true false false W args v W' := by
  have hW' := hW
  obtain ⟨p, q, hA0, hV, rfl, hfz, hnd⟩ := hW
  have hA : DataW.TrodAll enc Tryd.prog W 0 (fun _ => true) true Tryd.f3.params.toList args.toList ds p := hA0
  rw [Tryd.params3] at hA
  obtain ⟨v0, vs0, d0, ds0, p0, q0, hargs, rfl, rfl, _, r0⟩ := trodAll_cons hA
  obtain ⟨v1, vs1, d1, ds1, p1, q1, rfl, rfl, rfl, _, r1⟩ := trodAll_cons r0
  obtain ⟨rfl, rfl, rfl⟩ := trodAll_nil r1
  obtain ⟨rfl, rfl⟩ := trodVars_none hV
  refine law_calls (Γ := GG) (s := Rows.pruneLevelSpecSpec) (tb := 4) (dv := fun y : ProbD × Int × Unit => [.agg 5 (L1 (probC y.1)), .int .i64 y.2.1]) laidOutP ?_ ?_ ?_ hval hW' rfl rfl (by kernel_rfl) Tryd.underlying4 hsz (table_gi hL)
  · rw [Tryd.params3]
    intro t ht
    simp only [Array.toList, List.mem_cons, List.not_mem_nil, or_false] at ht
    rcases ht with rfl | rfl
    · exact ⟨by kernel_rfl, Nat.le_of_ble_eq_true (by kernel_rfl)⟩
    · exact ⟨by kernel_rfl, Nat.le_of_ble_eq_true (by kernel_rfl)⟩
  · rw [Tryd.params3]
    exact ArgsV.cons rvProb (ArgsV.cons rvInt ArgsV.nil)
  · intro w y hy
    obtain ⟨n, hn⟩ := lawLevel_true y.1 y.2.1 (Fit.of (hy 0))
    exact lawLevel_ok hn
theorem laid_met (os : Os) : laidMet Tryd.prog Rows.pruneLevelSpecRow.laid ((laidWorld os).forCall (fun _ _ => 0) ⟨#[], #[prob0, .int .i64 0], []⟩).memory :=
  laidMet_of_run' 70 (by kernel_rfl) (by kernel_rfl)
theorem reads (os : Os) {H : Type} (enc : TypeId × Value → H) : ∃ places, DataW.whole enc Tryd.prog ((laidWorld os).forCall (fun _ _ => 0) ⟨#[], #[prob0, .int .i64 0], []⟩).memory Tryd.f3.params.toList Rows.pruneLevelSpecSpec.vars false #[prob0, Value.int .i64 0].toList 16 = some ([.agg [.lit (.int .i64 0), .lit (.int .i64 0), .nil, .nil, .nil], .lit (.int .i64 0)], [], places) :=
  ⟨[], by kernel_rfl⟩
set_option maxRecDepth 100000 in
theorem lifted (os : Os) (started : os.Started) (H : Type) (enc : TypeId × Value → H) (F : Stop.Interp) :
    ReturnsInHanded {} Tryd.checked os 3 .any ((OpenSpec.ofChange Rows.pruneLevelSpecSpec).preRow enc Tryd.prog Tryd.f3 Rows.pruneLevelSpecRow.domain false Rows.pruneLevelSpecRow.laid) (((OpenSpec.ofChange Rows.pruneLevelSpecSpec).at F).post enc Tryd.prog Tryd.f3 false true false false) := by
  obtain ⟨places, hx⟩ := reads os enc
  refine returnsInHanded_of_row (C := Tryd.checked) (s := OpenSpec.ofChange Rows.pruneLevelSpecSpec) own started (by kernel_rfl) Tryd.func3
    (witness_row_at (enc := enc) (C := Tryd.checked) false (laidWorld os) #[prob0, .int .i64 0] rfl (by kernel_rfl) (by kernel_rfl) (by kernel_rfl)
      (OpenSpec.preRow_of_cond 16 hx (by kernel_rfl) (fun k hk => by cases hk) (by kernel_rfl) (laid_met os))) ?_
  intro W base args ds gs before hval hW _ _ hsz hL _ _
  refine contract H enc W base args ds gs before hval hW ?_ hL
  have h1 := hW
  obtain ⟨p, q, _, hV, _⟩ := h1
  obtain ⟨rfl, _⟩ := trodVars_none hV
  have e : (DataW.weightsEach Tryd.prog (Tryd.f3.params.toList ++ []) (ds ++ [])).all (· ≤ reachBytes) = true := hsz
  rw [List.append_nil, List.append_nil] at e
  exact e
theorem said : Rows.PruneLevelSpecSaid :=
  OpenClaim.holds_of_cond 3 Tryd.f3 rfl rfl rfl rfl rfl rfl rfl ⟨rfl, rfl, rfl, rfl, rfl⟩ rfl rfl rfl rfl rfl (by kernel_rfl) Tryd.func3 (by kernel_rfl)
    (of_decide_eq_true (by kernel_rfl)) (by unfold Func.isWrapper; first | (rw [if_pos (by decide +kernel)]; kernel_rfl) | (rw [if_neg (by decide +kernel)]; exact ⟨rfl, rfl⟩))
    (fun os started H enc _ F => by rw [OpenClaim.pre_eq_preRow]; exact lifted os started H enc F)
theorem plain (f : FuncId) (fn : Func) (hf : Tryd.pinned.checked.prog.funcNamed "gridwright/gridwrightlaw26.PruneLevelSpec" = some f) (hfn : Tryd.pinned.checked.prog.funcs[f]? = some fn) :
    false = Tryd.pinned.checked.prog.looks [] ∧ ∀ (j : Nat) t, fn.params[j]? = some t → Tryd.pinned.checked.prog.wantsStandIn t = false := by
  obtain rfl : f = 3 := Option.some.inj ((show Tryd.prog.funcNamed "gridwright/gridwrightlaw26.PruneLevelSpec" = some 3 by kernel_rfl).symm.trans hf) |>.symm
  obtain rfl : fn = Tryd.f3 := (Option.some.inj (Tryd.func3.symm.trans hfn)).symm
  refine ⟨by kernel_rfl, fun j t ht => ?_⟩
  rw [Tryd.params3] at ht
  have ht := Array.mem_of_getElem? ht
  simp only [Array.mem_def, Array.toList, List.mem_cons, List.not_mem_nil, or_false] at ht
  rcases ht with rfl | rfl
  · exact (show Tryd.prog.wantsStandIn 26 = false by kernel_rfl)
  · exact (show Tryd.prog.wantsStandIn 3 = false by kernel_rfl)
end Go.Proofs.YtekkngkphejfcaaDoor.pruneLevelSpec
namespace Go.Proofs.YtekkngkphejfcaaDoor
open Go.ChangeShapes Go.WideShapes Go.ChangeAt Go.RowKit
/-- The card. -/
theorem pruneLevelSpec_card : Rows.PruneLevelSpecCardSaid :=
  Claim7.holds_tied_plain_at .later [] _ _ _ _ pruneLevelSpec.said (fun _ h => by cases h) (by kernel_rfl) (fun _ h => by cases h) pruneLevelSpec_row_tie rfl ⟨rfl, rfl⟩ (by kernel_rfl) rfl pruneLevelSpec.plain (by kernel_rfl)
end Go.Proofs.YtekkngkphejfcaaDoor
