/- ServerNil: for every input the law returns true, and each argument reads afterwards as it read before: out of the run of the evaluator. -/
import Derived.Test.YtppabkcakledcaaGreatDoorZnRun
import Derived.Test.YtppabkcakledcaaGreatDoorAkGlue
import Derived.Test.YtppabkcakledcaaGreatDoorRows
import Derived.WalkKit
import Derived.ProofKit
import Derived.OpenShut
import Derived.ChangeOld
import Derived.LaidMore
import Derived.Deep.Strs
import Derived.Carry
namespace Go.Proofs.YtppabkcakledcaaGreatDoor
open Ak Go Go.ChangeShapes Go.WideShapes Go.ChangeAt Go.RowKit
set_option linter.unusedVariables false
theorem own : ownKnob Tryz.prog.godebug = none := by kernel_rfl
theorem laidOut : laidOutB Tryz.prog = true := by kernel_rfl
abbrev laid3 : List (String × DataW Unit) := Rows.serverNilRow.laid
theorem gBruijn : Tryz.prog.globalNamed "math/bits.deBruijn64tab" = some 3 := by kernel_rfl
theorem gLeast : Tryz.prog.globalNamed "grommet/layout.least" = some 1 := by kernel_rfl
theorem tLeast : (Tryz.prog.globals[1]?).map (·.type) = some 26 := by kernel_rfl
theorem door_met (os : Os) (args : Array Value) : laidMetH Tryz.prog laid3 ((World.doorLaid Tryz.prog 400 os).forCall (fun _ _ => 0) ⟨#[], args, []⟩).memory :=
  laidMetH_of_parts3 (fuel := 8) (laidMet_of_run' 8 (by kernel_rfl) (by kernel_rfl)) (by kernel_rfl) (by kernel_rfl)
/-- What the condition gives: the variable's cells; there are four variables at least. -/
theorem of_laid {W : World} (h : laidMetH Tryz.prog laid3 W) : 4 ≤ W.heap.size ∧ ∃ arr el fr, W.heap[1]? = some (.cells arr el fr) ∧ arr.toList = [.int .i64 1, .int .i64 2, .int .i64 2] := by
  rw [MakeChecks.laidMetH_plain _ _ _ (by kernel_rfl)] at h
  obtain ⟨ps, ⟨g0, t0, cs0, f0, p0, q0, hg0, ht0, hv0, hd0, ⟨g1, t1, cs1, f1, p1, q1, hg1, ht1, hv1, hd1, _, _⟩, _⟩, _, _⟩ := h
  obtain rfl := Option.some.inj (gBruijn.symm.trans hg0)
  obtain rfl := Option.some.inj (gLeast.symm.trans hg1)
  obtain rfl := Option.some.inj (tLeast.symm.trans ht1)
  have h3 : 3 < W.heap.size := by
    simp only [World.var?, hg0, Option.bind_some] at hv0
    split at hv0
    · rename_i e; exact (Array.getElem?_eq_some_iff.1 e).1
    · cases hv0
  refine ⟨h3, ?_⟩
  simp only [World.var?, hg1, Option.bind_some] at hv1
  split at hv1
  · rename_i e
    cases hv1
    refine ⟨_, _, _, e, ?_⟩
    obtain ⟨y0, y1, y2, n, hx, hl, h0, h1, h2⟩ := Deep.trod_struct3 Tryz.underlying26 hd1
    have c3 : Tryz.prog.cellsOf 3 = 1 := by kernel_rfl
    have c26 : Tryz.prog.cellsOf 26 = 3 := by kernel_rfl
    rw [c26] at hl
    simp only [c3] at h0 h1 h2
    match hm : cs1.toList, hl with
    | [a, b, c], _ =>
      rw [hm] at h0 h1 h2
      obtain ⟨x, e1, e2, _⟩ := DataW.trod_int Tryz.underlying3 (show DataW.trod _ Tryz.prog W 0 _ _ n 3 [a] = some y0 from h0)
      obtain ⟨y, e3, e4, _⟩ := DataW.trod_int Tryz.underlying3 (show DataW.trod _ Tryz.prog W 0 _ _ n 3 [b] = some y1 from h1)
      obtain ⟨z, e5, e6, _⟩ := DataW.trod_int Tryz.underlying3 (show DataW.trod _ Tryz.prog W 0 _ _ n 3 [c] = some y2 from h2)
      cases e1; cases e3; cases e5
      rw [e2, e4, e6] at hx
      simp only [Rows.laid_grommet_layout_least, Prod.mk.injEq, DataW.agg.injEq, List.cons.injEq, DataW.lit.injEq, Lit.int.injEq] at hx
      obtain ⟨⟨⟨_, rfl⟩, ⟨_, rfl⟩, ⟨_, rfl⟩, _⟩, _⟩ := hx
      rfl
  · cases hv1
theorem start {W : World} (h : laidMetH Tryz.prog laid3 W) : HR (CC (tiOf Tryz.prog) Tab.gl) (rho0 4 (fun g => if g = 1 then 3 else 0)) (fun _ => none) Tab.σ0 W := by
  obtain ⟨h4, arr, el, fr, hb, hl⟩ := of_laid h
  refine hr0 rfl h4 fun g o e hg => ?_
  have : g = 0 ∨ g = 1 ∨ g = 2 ∨ g = 3 := by omega
  rcases this with rfl | rfl | rfl | rfl
  · cases e
  · cases e
    refine ⟨_, _, rfl, arr, el, fr, hb, by rw [← Array.length_toList, hl]; decide, fun off ho => ?_⟩
    have : off = 0 ∨ off = 1 ∨ off = 2 := by have : off < 3 := ho; omega
    rcases this with rfl | rfl | rfl
    · exact ⟨.int .i64 1, by rw [← Array.getElem?_toList, hl]; rfl, .int _ _⟩
    · exact ⟨.int .i64 2, by rw [← Array.getElem?_toList, hl]; rfl, .int _ _⟩
    · exact ⟨.int .i64 2, by rw [← Array.getElem?_toList, hl]; rfl, .int _ _⟩
  · cases e
  · cases e
set_option maxRecDepth 100000 in
theorem job_abs {W : World} {base : Nat} {v : Value} (h : Value.okWide Tryz.prog W .any base 47 v) (ρ : Rho) :
    ∃ (k0 k1 k2 k3 k4 k5 k6 k7 k8 : Int) (s0 s1 s2 : List Nat), Rel ρ (.agg [.int .u8 k0, .int .i64 k1, .int .u64 k2, .int .u64 k3, .int .u8 k4, .int .u8 k5, .int .u64 k6, .int .u64 k7, .int .u64 k8, .str s0, .str s1, .str s2]) v := by
  obtain ⟨l, rfl, hl, hc⟩ := agg_cells Tryz.underlying47 h (ts := [43, 3, 23, 23, 5, 5, 23, 23, 23, 9, 9, 9]) (by kernel_rfl) (by kernel_rfl)
  match l, hl with
  | [v0, v1, v2, v3, v4, v5, v6, v7, v8, v9, v10, v11], _ =>
    obtain ⟨k0, rfl⟩ := cell_int Tryz.underlying43 (hc 0 v0 43 rfl rfl)
    obtain ⟨k1, rfl⟩ := cell_int Tryz.underlying3 (hc 1 v1 3 rfl rfl)
    obtain ⟨k2, rfl⟩ := cell_int Tryz.underlying23 (hc 2 v2 23 rfl rfl)
    obtain ⟨k3, rfl⟩ := cell_int Tryz.underlying23 (hc 3 v3 23 rfl rfl)
    obtain ⟨k4, rfl⟩ := cell_int Tryz.underlying5 (hc 4 v4 5 rfl rfl)
    obtain ⟨k5, rfl⟩ := cell_int Tryz.underlying5 (hc 5 v5 5 rfl rfl)
    obtain ⟨k6, rfl⟩ := cell_int Tryz.underlying23 (hc 6 v6 23 rfl rfl)
    obtain ⟨k7, rfl⟩ := cell_int Tryz.underlying23 (hc 7 v7 23 rfl rfl)
    obtain ⟨k8, rfl⟩ := cell_int Tryz.underlying23 (hc 8 v8 23 rfl rfl)
    obtain ⟨b0, rfl⟩ := cell_str Tryz.underlying9 (hc 9 v9 9 rfl rfl)
    obtain ⟨b1, rfl⟩ := cell_str Tryz.underlying9 (hc 10 v10 9 rfl rfl)
    obtain ⟨b2, rfl⟩ := cell_str Tryz.underlying9 (hc 11 v11 9 rfl rfl)
    exact ⟨k0, k1, k2, k3, k4, k5, k6, k7, k8, _, _, _, rel_agg (.cons (.int _ _) (.cons (.int _ _) (.cons (.int _ _) (.cons (.int _ _) (.cons (.int _ _) (.cons (.int _ _) (.cons (.int _ _) (.cons (.int _ _) (.cons (.int _ _) (.cons (rel_str ρ b0) (.cons (rel_str ρ b1) (.cons (rel_str ρ b2) (.nil ρ)))))))))))))⟩
set_option maxRecDepth 100000 in
theorem lifted (os : Os) (started : os.Started) (H : Type) (enc : TypeId × Value → H) :
    ReturnsInHanded {} Tryz.checked os 4 .any (fun w args => (Rows.serverNilSpec.pre enc Tryz.prog Tryz.f4 [] false w args ∧ laidMetH Tryz.prog laid3 w) ∧ sizedMet enc Tryz.prog Tryz.f4 (OpenSpec.ofChange Rows.serverNilSpec) false w args)
      (Rows.serverNilSpec.post enc Tryz.prog Tryz.f4 false true false false) := by
  refine returnsInHanded_of_change_and (C := Tryz.checked) (X := fun w _ => laidMetH Tryz.prog laid3 w) (fun _ _ _ hh h => h.of_heap hh) own started (by kernel_rfl) Tryz.func4
    (ChangeSpec.witness_shaped (enc := enc) (C := Tryz.checked) (os := os) (X := fun w _ => laidMetH Tryz.prog laid3 w) false (World.doorLaid Tryz.prog 400 os)
      #[.int .i64 0, .agg #[.int .u8 0, .int .i64 0, .int .u64 0, .int .u64 0, .int .u8 0, .int .u8 0, .int .u64 0, .int .u64 0, .int .u64 0, .string ByteArray.empty, .string ByteArray.empty, .string ByteArray.empty], .int .u64 0, .int .u64 0] 8 rfl
      (World.shaped_of_RefB (by kernel_rfl) (by kernel_rfl)) (by kernel_rfl) (by kernel_rfl) (by kernel_rfl) (door_met os _)) ?_
  intro W base args ds gs before hval0 hW _ _ hL _
  have hval : ∀ (j : Nat) t v, Tryz.f4.params[j]? = some t → args[j]? = some v → Value.okWide Tryz.prog W .any base t v := hval0
  have hW' := hW
  obtain ⟨p, q, hA0, hV, rfl, hfz, hnd⟩ := hW
  have hA : DataW.TrodAll enc Tryz.prog W 0 (fun _ => true) true Tryz.f4.params.toList args.toList ds p := hA0
  rw [Tryz.params4] at hA hval
  obtain ⟨v0, vs0, d0, ds0, p0, q0, hargs, rfl, rfl, h0, r0⟩ := trodAll_cons hA
  obtain ⟨v1, vs1, d1, ds1, p1, q1, rfl, rfl, rfl, h1, r1⟩ := trodAll_cons r0
  obtain ⟨v2, vs2, d2, ds2, p2, q2, rfl, rfl, rfl, h2, r2⟩ := trodAll_cons r1
  obtain ⟨v3, vs3, d3, ds3, p3, q3, rfl, rfl, rfl, h3, r3⟩ := trodAll_cons r2
  obtain ⟨rfl, rfl, rfl⟩ := trodAll_nil r3
  obtain rfl : args = #[v0, v1, v2, v3] := by cases args; simp_all
  obtain ⟨rfl, rfl⟩ := trodVars_none hV
  obtain ⟨n, hn, _⟩ := open_int Tryz.underlying3 (hval 0 3 v0 rfl rfl) h0
  obtain ⟨g, hg, _⟩ := open_int Tryz.underlying23 (hval 2 23 v2 rfl rfl) h2
  obtain ⟨s, hs, _⟩ := open_int Tryz.underlying23 (hval 3 23 v3 rfl rfl) h3
  obtain ⟨k0, k1, k2, k3, k4, k5, k6, k7, k8, s0, s1, s2, hj⟩ := job_abs (hval 1 47 v1 rfl rfl) (rho0 4 (fun g => if g = 1 then 3 else 0))
  have lt0 : ∀ x ∈ p0, x.block < W.heap.size := by obtain ⟨m, hm⟩ := h0; exact DataW.trod_lt m _ _ _ hm
  have lt1 : ∀ x ∈ p1, x.block < W.heap.size := by obtain ⟨m, hm⟩ := h1; exact DataW.trod_lt m _ _ _ hm
  have lt2 : ∀ x ∈ p2, x.block < W.heap.size := by obtain ⟨m, hm⟩ := h2; exact DataW.trod_lt m _ _ _ hm
  have lt3 : ∀ x ∈ p3, x.block < W.heap.size := by obtain ⟨m, hm⟩ := h3; exact DataW.trod_lt m _ _ _ hm
  clear hA0 hval0
  refine (walk_of_run (args' := #[v0, v1, v2, v3]) (by kernel_rfl) (of_decide_eq_true (by kernel_rfl)) Tab.fok Tab.sok (Tab.run n k0 k1 k2 k3 k4 k5 k6 k7 k8 s0 s1 s2 g s) ?_ (start hL) (glR0 fun g hg => ?_)).mono fun e W' ⟨he, bel⟩ => ?_
  · rw [hn, hg, hs]
    exact .cons (.int _ _) (.cons hj (.cons (.int _ _) (.cons (.int _ _) (.nil _))))
  · simp only [Tab.gl, isIn, Bool.or_eq_true] at hg
    simp at hg
    omega
  · subst he
    exact ⟨_, rfl, _, _, _, [], _, [], hW', trodAll_mk1 (shut_bool Tryz.underlying4 _), trodAll_cons_mk (Below.trod laidOut (by kernel_rfl) (of_decide_eq_true (by kernel_rfl)) h0 bel lt0) (trodAll_cons_mk (Below.trod laidOut (by kernel_rfl) (of_decide_eq_true (by kernel_rfl)) h1 bel lt1)
      (trodAll_cons_mk (Below.trod laidOut (by kernel_rfl) (of_decide_eq_true (by kernel_rfl)) h2 bel lt2) (trodAll_cons_mk (Below.trod laidOut (by kernel_rfl) (of_decide_eq_true (by kernel_rfl)) h3 bel lt3) trodAll_mk0))), rfl, bel.frame _, fun h => by cases h⟩
end Go.Proofs.YtppabkcakledcaaGreatDoor
