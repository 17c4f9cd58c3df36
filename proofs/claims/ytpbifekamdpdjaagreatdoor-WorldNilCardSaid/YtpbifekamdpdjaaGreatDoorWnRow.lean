/- WorldNil: for every input the law returns true, and each argument reads afterwards as it read before: out of the runs of the evaluator. -/
import Derived.Test.YtpbifekamdpdjaaGreatDoorWnRunA
import Derived.Test.YtpbifekamdpdjaaGreatDoorWnRunB
import Derived.Test.YtpbifekamdpdjaaGreatDoorRows
import Derived.WalkKit
import Derived.ProofKit
import Derived.OpenShut
import Derived.ChangeOld
import Derived.LaidMore
import Derived.Deep.Strs
import Derived.Carry
namespace Go.Proofs.YtpbifekamdpdjaaGreatDoor
open Ak Go Go.ChangeShapes Go.WideShapes Go.ChangeAt Go.RowKit
set_option linter.unusedVariables false
theorem own : ownKnob Tryz.prog.godebug = none := by kernel_rfl
theorem laidOut : laidOutB Tryz.prog = true := by kernel_rfl
abbrev laid3 : List (String × DataW Unit) := Rows.worldNilRow.laid
theorem gBruijn : Tryz.prog.globalNamed "math/bits.deBruijn64tab" = some 3 := by kernel_rfl
theorem gLeast : Tryz.prog.globalNamed "grommet/layout.least" = some 1 := by kernel_rfl
theorem tLeast : (Tryz.prog.globals[1]?).map (·.type) = some 37 := by kernel_rfl
theorem door_met (os : Os) (args : Array Value) : laidMetH Tryz.prog laid3 ((World.doorLaid Tryz.prog 400 os).forCall (fun _ _ => 0) ⟨#[], args, []⟩).memory :=
  laidMetH_of_parts3 (fuel := 8) (laidMet_of_run' 8 (by kernel_rfl) (by kernel_rfl)) (by kernel_rfl) (by kernel_rfl)
/-- What the condition gives: the variable's cells; there are four variables at least. -/
theorem of_laid {W : World} (h : laidMetH Tryz.prog laid3 W) : 4 ≤ W.heap.size ∧ ∃ arr el fr, W.heap[1]? = some (.cells arr el fr) ∧ arr.toList = [.int .i64 1, .int .i64 2, .int .i64 2] := by
  rw [MakeChecks.laidMetH_plain _ _ _ (by kernel_rfl)] at h
  obtain ⟨ps, ⟨g0, t0, cs0, f0, p0, q0, hg0, ht0, hv0, hd0, ⟨g1, t1, cs1, f1, p1, q1, hg1, ht1, hv1, hd1, _, _⟩, _⟩, _, _⟩ := h
  obtain rfl := Option.some.inj (gBruijn.symm.trans hg0)
  obtain rfl := Option.some.inj (gLeast.symm.trans hg1)
  obtain rfl := Option.some.inj (tLeast.symm.trans ht1)
  have h3 : 3 < W.heap.size := by
    simp only [World.var?, hg0, Option.bind_some] at hv0
    split at hv0
    · rename_i e; exact (Array.getElem?_eq_some_iff.1 e).1
    · cases hv0
  refine ⟨h3, ?_⟩
  simp only [World.var?, hg1, Option.bind_some] at hv1
  split at hv1
  · rename_i e
    cases hv1
    refine ⟨_, _, _, e, ?_⟩
    obtain ⟨y0, y1, y2, n, hx, hl, h0, h1, h2⟩ := Deep.trod_struct3 Tryz.underlying37 hd1
    have c3 : Tryz.prog.cellsOf 3 = 1 := by kernel_rfl
    have c26 : Tryz.prog.cellsOf 37 = 3 := by kernel_rfl
    rw [c26] at hl
    simp only [c3] at h0 h1 h2
    match hm : cs1.toList, hl with
    | [a, b, c], _ =>
      rw [hm] at h0 h1 h2
      obtain ⟨x, e1, e2, _⟩ := DataW.trod_int Tryz.underlying3 (show DataW.trod _ Tryz.prog W 0 _ _ n 3 [a] = some y0 from h0)
      obtain ⟨y, e3, e4, _⟩ := DataW.trod_int Tryz.underlying3 (show DataW.trod _ Tryz.prog W 0 _ _ n 3 [b] = some y1 from h1)
      obtain ⟨z, e5, e6, _⟩ := DataW.trod_int Tryz.underlying3 (show DataW.trod _ Tryz.prog W 0 _ _ n 3 [c] = some y2 from h2)
      cases e1; cases e3; cases e5
      rw [e2, e4, e6] at hx
      simp only [Rows.laid_grommet_layout_least, Prod.mk.injEq, DataW.agg.injEq, List.cons.injEq, DataW.lit.injEq, Lit.int.injEq] at hx
      obtain ⟨⟨⟨_, rfl⟩, ⟨_, rfl⟩, ⟨_, rfl⟩, _⟩, _⟩ := hx
      rfl
  · cases hv1
abbrev rho4 : Rho := rho0 4 (fun g => if g = 1 then 3 else 0)
theorem start {W : World} (h : laidMetH Tryz.prog laid3 W) : HR (CC (tiOf Tryz.prog) Tab.gl) rho4 (fun _ => none) (σl 4) W := by
  obtain ⟨h4, arr, el, fr, hb, hl⟩ := of_laid h
  refine hr0 rfl h4 fun g o e hg => ?_
  have : g = 0 ∨ g = 1 ∨ g = 2 ∨ g = 3 := by omega
  rcases this with rfl | rfl | rfl | rfl
  · cases e
  · cases e
    refine ⟨_, _, rfl, arr, el, fr, hb, by rw [← Array.length_toList, hl]; decide, fun off ho => ?_⟩
    have : off = 0 ∨ off = 1 ∨ off = 2 := by have : off < 3 := ho; omega
    rcases this with rfl | rfl | rfl
    · exact ⟨.int .i64 1, by rw [← Array.getElem?_toList, hl]; rfl, .int _ _⟩
    · exact ⟨.int .i64 2, by rw [← Array.getElem?_toList, hl]; rfl, .int _ _⟩
    · exact ⟨.int .i64 2, by rw [← Array.getElem?_toList, hl]; rfl, .int _ _⟩
  · cases e
  · cases e
set_option maxRecDepth 100000 in
theorem act_abs {W : World} {base : Nat} {v : Value} (h : Value.okWide Tryz.prog W .any base 31 v) :
    ∃ (k0 k1 k2 k3 k4 k5 k6 k7 k8 k9 k10 : Int) (s0 s1 s2 : List Nat), (∀ ρ, Rel ρ (.agg [.int .u8 k0, .int .i64 k1, .int .u8 k2, .int .i64 k3, .int .u64 k4, .int .u64 k5, .int .u8 k6, .int .u8 k7, .int .u64 k8, .int .u64 k9, .int .u64 k10, .str s0, .str s1, .str s2, .nils]) v) ∨
      ∃ b o len cap : Nat, len ≤ cap ∧ b < W.heap.size ∧ ∀ ρ : Rho, ρ 4 = some ⟨b, o, 0, cap⟩ →
        Rel ρ (.agg [.int .u8 k0, .int .i64 k1, .int .u8 k2, .int .i64 k3, .int .u64 k4, .int .u64 k5, .int .u8 k6, .int .u8 k7, .int .u64 k8, .int .u64 k9, .int .u64 k10, .str s0, .str s1, .str s2, .slc 4 0 1 len cap true]) v := by
  obtain ⟨l, rfl, hl, hc⟩ := agg_cells Tryz.underlying31 h (ts := [22, 3, 23, 3, 24, 24, 5, 5, 24, 24, 24, 9, 9, 9, 29]) (by kernel_rfl) (by kernel_rfl)
  match l, hl with
  | [v0, v1, v2, v3, v4, v5, v6, v7, v8, v9, v10, v11, v12, v13, v14], _ =>
    obtain ⟨k0, rfl⟩ := cell_int Tryz.underlying22 (hc 0 v0 22 rfl rfl)
    obtain ⟨k1, rfl⟩ := cell_int Tryz.underlying3 (hc 1 v1 3 rfl rfl)
    obtain ⟨k2, rfl⟩ := cell_int Tryz.underlying23 (hc 2 v2 23 rfl rfl)
    obtain ⟨k3, rfl⟩ := cell_int Tryz.underlying3 (hc 3 v3 3 rfl rfl)
    obtain ⟨k4, rfl⟩ := cell_int Tryz.underlying24 (hc 4 v4 24 rfl rfl)
    obtain ⟨k5, rfl⟩ := cell_int Tryz.underlying24 (hc 5 v5 24 rfl rfl)
    obtain ⟨k6, rfl⟩ := cell_int Tryz.underlying5 (hc 6 v6 5 rfl rfl)
    obtain ⟨k7, rfl⟩ := cell_int Tryz.underlying5 (hc 7 v7 5 rfl rfl)
    obtain ⟨k8, rfl⟩ := cell_int Tryz.underlying24 (hc 8 v8 24 rfl rfl)
    obtain ⟨k9, rfl⟩ := cell_int Tryz.underlying24 (hc 9 v9 24 rfl rfl)
    obtain ⟨k10, rfl⟩ := cell_int Tryz.underlying24 (hc 10 v10 24 rfl rfl)
    obtain ⟨b0, rfl⟩ := cell_str Tryz.underlying9 (hc 11 v11 9 rfl rfl)
    obtain ⟨b1, rfl⟩ := cell_str Tryz.underlying9 (hc 12 v12 9 rfl rfl)
    obtain ⟨b2, rfl⟩ := cell_str Tryz.underlying9 (hc 13 v13 9 rfl rfl)
    refine ⟨k0, k1, k2, k3, k4, k5, k6, k7, k8, k9, k10, b0.data.toList.map UInt8.toNat, b1.data.toList.map UInt8.toNat, b2.data.toList.map UInt8.toNat, ?_⟩
    have all : ∀ (ρ : Rho) (x : V) (y : Value), Rel ρ x y → Rel ρ (.agg [.int .u8 k0, .int .i64 k1, .int .u8 k2, .int .i64 k3, .int .u64 k4, .int .u64 k5, .int .u8 k6, .int .u8 k7, .int .u64 k8, .int .u64 k9, .int .u64 k10,
        .str (b0.data.toList.map UInt8.toNat), .str (b1.data.toList.map UInt8.toNat), .str (b2.data.toList.map UInt8.toNat), x])
        (.agg ⟨[.int .u8 k0, .int .i64 k1, .int .u8 k2, .int .i64 k3, .int .u64 k4, .int .u64 k5, .int .u8 k6, .int .u8 k7, .int .u64 k8, .int .u64 k9, .int .u64 k10, .string b0, .string b1, .string b2, y]⟩) := fun ρ x y hxy =>
      rel_agg (.cons (.int _ _) (.cons (.int _ _) (.cons (.int _ _) (.cons (.int _ _) (.cons (.int _ _) (.cons (.int _ _) (.cons (.int _ _) (.cons (.int _ _) (.cons (.int _ _) (.cons (.int _ _) (.cons (.int _ _) (.cons (rel_str ρ b0) (.cons (rel_str ρ b1) (.cons (rel_str ρ b2) (.cons hxy (.nil ρ))))))))))))))))
    rcases cell_slc Tryz.underlying29 (hc 14 v14 29 rfl rfl) with rfl | ⟨b, o, len, cap, rfl, hle, hb⟩
    · exact .inl fun ρ => all ρ _ _ .nils
    · exact .inr ⟨b, o, len, cap, hle, hb, fun ρ hρ => all ρ _ _ (rel_slcArg hρ hle)⟩
set_option maxRecDepth 100000 in
theorem walk {W : World} {v : Value} {k : Int} (hL : laidMetH Tryz.prog laid3 W) {base : Nat} (h : Value.okWide Tryz.prog W .any base 31 v) : Calls Tryz.prog 3 #[v, .int .i64 k] W fun e W' => e = .returned (.bool true) ∧ Below W.heap.size W W' := by
  obtain ⟨k0, k1, k2, k3, k4, k5, k6, k7, k8, k9, k10, s0, s1, s2, hv⟩ := act_abs h
  rcases hv with hv | ⟨b, o, len, cap, hle, hb, hv⟩
  · exact walk_of_run (by kernel_rfl) (of_decide_eq_true (by kernel_rfl)) Tab.fok Tab.sokX (Tab.run0 k0 k1 k2 k3 k4 k5 k6 k7 k8 k9 k10 s0 s1 s2 k) (.cons (hv _) (.cons (.int _ _) (.nil _))) (start hL) (glR0 Tab.glLt)
  · have hs := (start hL).addArg (L := ⟨b, o, 0, cap⟩) hb rfl
    exact walk_of_run (by kernel_rfl) (of_decide_eq_true (by kernel_rfl)) Tab.fok Tab.sokX (Tab.run1 k0 k1 k2 k3 k4 k5 k6 k7 k8 k9 k10 s0 s1 s2 len cap k) (.cons (hv _ (by simp [Rho.add, σl])) (.cons (.int _ _) (.nil _))) hs
      ((glR0 Tab.glLt).mono (Rho.ext_add (start hL).fresh))
set_option maxRecDepth 100000 in
theorem lifted (os : Os) (started : os.Started) (H : Type) (enc : TypeId × Value → H) :
    ReturnsInHanded {} Tryz.checked os 3 .any (fun w args => (Rows.worldNilSpec.pre enc Tryz.prog Tryz.f3 [] false w args ∧ laidMetH Tryz.prog laid3 w) ∧ sizedMet enc Tryz.prog Tryz.f3 (OpenSpec.ofChange Rows.worldNilSpec) false w args)
      (Rows.worldNilSpec.post enc Tryz.prog Tryz.f3 false true false false) := by
  refine returnsInHanded_of_change_and (C := Tryz.checked) (X := fun w _ => laidMetH Tryz.prog laid3 w) (fun _ _ _ hh h => h.of_heap hh) own started (by kernel_rfl) Tryz.func3
    (ChangeSpec.witness_shaped (enc := enc) (C := Tryz.checked) (os := os) (X := fun w _ => laidMetH Tryz.prog laid3 w) false (World.doorLaid Tryz.prog 400 os)
      #[.agg #[.int .u8 0, .int .i64 0, .int .u8 0, .int .i64 0, .int .u64 0, .int .u64 0, .int .u8 0, .int .u8 0, .int .u64 0, .int .u64 0, .int .u64 0, .string ByteArray.empty, .string ByteArray.empty, .string ByteArray.empty, .slice none 0 0], .int .i64 0] 8 rfl
      (World.shaped_of_RefB (by kernel_rfl) (by kernel_rfl)) (by kernel_rfl) (by kernel_rfl) (by kernel_rfl) (door_met os _)) ?_
  intro W base args ds gs before hval0 hW _ _ hL _
  have hval : ∀ (j : Nat) t v, Tryz.f3.params[j]? = some t → args[j]? = some v → Value.okWide Tryz.prog W .any base t v := hval0
  have hW' := hW
  obtain ⟨p, q, hA0, hV, rfl, hfz, hnd⟩ := hW
  have hA : DataW.TrodAll enc Tryz.prog W 0 (fun _ => true) true Tryz.f3.params.toList args.toList ds p := hA0
  rw [Tryz.params3] at hA hval
  obtain ⟨v0, vs0, d0, ds0, p0, q0, hargs, rfl, rfl, h0, r0⟩ := trodAll_cons hA
  obtain ⟨v1, vs1, d1, ds1, p1, q1, rfl, rfl, rfl, h1, r1⟩ := trodAll_cons r0
  obtain ⟨rfl, rfl, rfl⟩ := trodAll_nil r1
  obtain rfl : args = #[v0, v1] := by cases args; simp_all
  obtain ⟨rfl, rfl⟩ := trodVars_none hV
  obtain ⟨k, hk, _⟩ := open_int Tryz.underlying3 (hval 1 3 v1 rfl rfl) h1
  have lt0 : ∀ x ∈ p0, x.block < W.heap.size := by obtain ⟨m, hm⟩ := h0; exact DataW.trod_lt m _ _ _ hm
  have lt1 : ∀ x ∈ p1, x.block < W.heap.size := by obtain ⟨m, hm⟩ := h1; exact DataW.trod_lt m _ _ _ hm
  have hc : Calls Tryz.prog 3 #[v0, v1] W fun e W' => e = .returned (.bool true) ∧ Below W.heap.size W W' := by
    rw [hk]
    exact walk hL (hval 0 31 v0 rfl rfl)
  clear hA0 hval0
  refine hc.mono fun e W' ⟨he, bel⟩ => ?_
  subst he
  exact ⟨_, rfl, _, _, _, [], _, [], hW', trodAll_mk1 (shut_bool Tryz.underlying4 _), trodAll_cons_mk (Below.trod laidOut (by kernel_rfl) (of_decide_eq_true (by kernel_rfl)) h0 bel lt0) (trodAll_cons_mk (Below.trod laidOut (by kernel_rfl) (of_decide_eq_true (by kernel_rfl)) h1 bel lt1) trodAll_mk0), rfl, bel.frame _, fun h => by cases h⟩
end Go.Proofs.YtpbifekamdpdjaaGreatDoor
