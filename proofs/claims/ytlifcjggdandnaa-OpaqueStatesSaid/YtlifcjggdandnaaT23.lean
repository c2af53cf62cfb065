/- The rows of the two opaque laws. -/
import Derived.Test.YtlifcjggdandnaaT21
import Derived.Test.YtlifcjggdandnaaT22
import Derived.Test.YtlifcjggdandnaaRows
import Derived.ProofKit
import Derived.SizedLaws
namespace Go.Proofs.Ytlifcjggdandnaa
open Go.ChangeShapes Go.WideShapes Go.ChangeAt Go.RowKit Go.Ideal

theorem ownT : ownKnob Try.prog.godebug = none := by kernel_rfl
theorem laidT : laidOutB Try.prog = true := by kernel_rfl

theorem ophkL : OpHk hkL := by constructor <;> first | rfl | (constructor <;> first | rfl | (constructor <;> rfl))
theorem refhkL : RefHk hkL := by constructor <;> first | rfl | (constructor <;> rfl)

/-- A call that the ideal machine answers, at handed-in values. -/
theorem answers {f : FuncId} {W : World} {args : Array Value} {iargs : List Value} (hargs : RelL Try.prog W.heap.size [] [] iargs args.toList) (ha : Ans Try.prog W hkL f iargs [] (fun r _ => r = .ret (.bool true))) :
    Calls Try.prog f args W fun e W' => e = .returned (.bool true) ∧ Below W.heap.size W W' := by
  obtain ⟨r, h', he, rfl⟩ := ha
  refine (he.does mixed (hkL_ok W) [] W args (relW_base W) hargs).mono fun e W' ⟨μ', g1, _, g3⟩ => ?_
  cases e with
  | returned u =>
    have : u = .bool true := flat_inv _ u rfl g3
    exact ⟨by rw [this], g1.below⟩
  | panicked c => exact g3.elim
  | outgrown => exact g3.elim

theorem rel_two {W : World} {v0 v1 u0 u1 : Value} (h0 : impV W.heap.size v0 = some u0) (h1 : impV W.heap.size v1 = some u1) : RelL Try.prog W.heap.size [] [] [u0, u1] #[v0, v1].toList :=
  RelL.cons (impV_rel h0) (RelL.cons (impV_rel h1) RelL.nil)

set_option maxRecDepth 100000 in
theorem checks_lifted (os : Os) (started : os.Started) (H : Type) (enc : TypeId × Value → H) :
    ReturnsInHanded {} Try.checked os 3 .any (Rows.opaqueChecksSpec.pre6 enc Try.prog Try.f3 Rows.opaqueChecksRow.domain false) (Rows.opaqueChecksSpec.post enc Try.prog Try.f3 false true false false) := by
  refine returnsInHanded_of_change_sized (C := Try.checked) ownT started (by kernel_rfl) Try.func3
    (ChangeSpec.witness6 (enc := enc) (C := Try.checked) false ⟨#[], #[.slice none 0 0, .slice none 0 0], []⟩ 8 (by kernel_rfl) (by kernel_rfl) (by kernel_rfl) (by kernel_rfl)) ?_
  intro W base args ds gs before hval0 hW _ hsz0 _
  have hW' := hW
  obtain ⟨p, q, hA0, hV, rfl, _, _⟩ := hW
  have hA : DataW.TrodAll enc Try.prog W 0 (fun _ => true) true Try.f3.params.toList args.toList ds p := hA0
  have hpar : Try.f3.params.toList = [22, 23] := rfl
  rw [hpar] at hA
  obtain ⟨v0, v1, d0, d1, p0, p1, rfl, rfl, rfl, h0, h1⟩ := trodAll_two hA
  obtain ⟨rfl, rfl⟩ := trodVars_none hV
  have hv0 := okWide_slice u22 (hval0 0 22 v0 rfl rfl)
  have hv1 := okWide_slice u23 (hval0 1 23 v1 rfl rfl)
  obtain ⟨a0, n0, k0, rfl⟩ := hv0
  obtain ⟨a1, n1, k1, rfl⟩ := hv1
  have h0k := h0
  have h1k := h1
  obtain ⟨f0, hf0⟩ := h0
  obtain ⟨f1, hf1⟩ := h1
  have hsz : (DataW.weightsEach Try.prog [22, 23] [d0, d1]).all (· ≤ reachBytes) = true := hsz0
  have l0 : Light Try.prog 22 d0 := light_of hsz (j := 0) rfl rfl
  have l1 : Light Try.prog 23 d1 := light_of hsz (j := 1) rfl rfl
  have hin := open_in (y0 := (d0, p0)) (y1 := (d1, p1)) hf0 hf1 l0 l1
  obtain ⟨fv, tv, first, txs, i0, i1, hi⟩ := hin
  simp only [List.append_nil] at hW'
  refine (answers (rel_two i0 i1) (checks_law (h := []) rfl rfl rfl rfl (livesOk W) ophkL refhkL hi)).mono fun e W' ⟨he, hb⟩ => ?_
  subst he
  have b0 := Below.trod laidT (by kernel_rfl) (of_decide_eq_true (by kernel_rfl)) h0k hb (fun x hx => hW'.lt x (by simp [hx]))
  have b1 := Below.trod laidT (by kernel_rfl) (of_decide_eq_true (by kernel_rfl)) h1k hb (fun x hx => hW'.lt x (by simp [hx]))
  exact ⟨_, rfl, _, _, _, [], p0 ++ p1, [], hW', trodAll_mk1 (shut_bool u4 true), trodAll_mk2 b0 b1, rfl, hb.frame _, fun h => by cases h⟩

theorem rel_three {W : World} {v0 v1 v2 u0 u1 u2 : Value} (h0 : impV W.heap.size v0 = some u0) (h1 : impV W.heap.size v1 = some u1) (h2 : impV W.heap.size v2 = some u2) : RelL Try.prog W.heap.size [] [] [u0, u1, u2] #[v0, v1, v2].toList :=
  RelL.cons (impV_rel h0) (RelL.cons (impV_rel h1) (RelL.cons (impV_rel h2) RelL.nil))

set_option maxRecDepth 100000 in
theorem states_lifted (os : Os) (started : os.Started) (H : Type) (enc : TypeId × Value → H) :
    ReturnsInHanded {} Try.checked os 4 .any (Rows.opaqueStatesSpec.pre6 enc Try.prog Try.f4 Rows.opaqueStatesRow.domain false) (Rows.opaqueStatesSpec.post enc Try.prog Try.f4 false true false false) := by
  refine returnsInHanded_of_change_sized (C := Try.checked) ownT started (by kernel_rfl) Try.func4
    (ChangeSpec.witness6 (enc := enc) (C := Try.checked) false ⟨#[], #[.slice none 0 0, .slice none 0 0, .int .i64 0], []⟩ 8 (by kernel_rfl) (by kernel_rfl) (by kernel_rfl) (by kernel_rfl)) ?_
  intro W base args ds gs before hval0 hW _ hsz0 _
  have hW' := hW
  obtain ⟨p, q, hA0, hV, rfl, _, _⟩ := hW
  have hA : DataW.TrodAll enc Try.prog W 0 (fun _ => true) true Try.f4.params.toList args.toList ds p := hA0
  have hpar : Try.f4.params.toList = [22, 23, 3] := rfl
  rw [hpar] at hA
  obtain ⟨v0, v1, v2, d0, d1, d2, p0, p1, p2, rfl, rfl, rfl, h0, h1, h2⟩ := trodAll_three hA
  obtain ⟨rfl, rfl⟩ := trodVars_none hV
  have hv0 := okWide_slice u22 (hval0 0 22 v0 rfl rfl)
  have hv1 := okWide_slice u23 (hval0 1 23 v1 rfl rfl)
  obtain ⟨a0, n0, k0, rfl⟩ := hv0
  obtain ⟨a1, n1, k1, rfl⟩ := hv1
  have ho2 := open_int u3 (hval0 2 3 v2 rfl rfl) h2
  obtain ⟨s, rfl, rfl, rfl, ws⟩ := ho2
  have h0k := h0
  have h1k := h1
  obtain ⟨f0, hf0⟩ := h0
  obtain ⟨f1, hf1⟩ := h1
  have hsz : (DataW.weightsEach Try.prog [22, 23, 3] [d0, d1, .lit (.int .i64 s)]).all (· ≤ reachBytes) = true := hsz0
  have l0 : Light Try.prog 22 d0 := light_of hsz (j := 0) rfl rfl
  have l1 : Light Try.prog 23 d1 := light_of hsz (j := 1) rfl rfl
  have hin := open_in (y0 := (d0, p0)) (y1 := (d1, p1)) hf0 hf1 l0 l1
  obtain ⟨fv, tv, first, txs, i0, i1, hi⟩ := hin
  simp only [List.append_nil] at hW'
  refine (answers (rel_three i0 i1 (u2 := .int .i64 s) rfl) (states_law (h := []) rfl rfl rfl rfl rfl rfl rfl (livesOk W) ophkL refhkL hi s)).mono fun e W' ⟨he, hb⟩ => ?_
  subst he
  have b0 := Below.trod laidT (by kernel_rfl) (of_decide_eq_true (by kernel_rfl)) h0k hb (fun x hx => hW'.lt x (by simp [hx]))
  have b1 := Below.trod laidT (by kernel_rfl) (of_decide_eq_true (by kernel_rfl)) h1k hb (fun x hx => hW'.lt x (by simp [hx]))
  exact ⟨_, rfl, _, _, _, [], p0 ++ (p1 ++ []), [], hW', trodAll_mk1 (shut_bool u4 true), trodAll_mk3 b0 b1 (shut_int u3 ws), rfl, hb.frame _, fun h => by cases h⟩

/-- 'OpaqueChecks': whatever the input, true. -/
theorem opaque_checks : Rows.OpaqueChecksSaid :=
  OpenClaim.holds_of_wide 3 Try.f3 rfl rfl rfl rfl rfl rfl rfl ⟨rfl, rfl, rfl, rfl, rfl⟩ rfl rfl rfl rfl rfl (by kernel_rfl) Try.func3 (by kernel_rfl)
    (of_decide_eq_true (by kernel_rfl)) (by unfold Func.isWrapper; first | (rw [if_pos (by decide +kernel)]; kernel_rfl) | (rw [if_neg (by decide +kernel)]; exact ⟨rfl, rfl⟩))
    (fun os started H enc _ => checks_lifted os started H enc)

/-- 'OpaqueStates': whatever the input, true. -/
theorem opaque_states : Rows.OpaqueStatesSaid :=
  OpenClaim.holds_of_wide 4 Try.f4 rfl rfl rfl rfl rfl rfl rfl ⟨rfl, rfl, rfl, rfl, rfl⟩ rfl rfl rfl rfl rfl (by kernel_rfl) Try.func4 (by kernel_rfl)
    (of_decide_eq_true (by kernel_rfl)) (by unfold Func.isWrapper; first | (rw [if_pos (by decide +kernel)]; kernel_rfl) | (rw [if_neg (by decide +kernel)]; exact ⟨rfl, rfl⟩))
    (fun os started H enc _ => states_lifted os started H enc)
end Go.Proofs.Ytlifcjggdandnaa
#print axioms Go.Proofs.Ytlifcjggdandnaa.opaque_checks
#print axioms Go.Proofs.Ytlifcjggdandnaa.opaque_states
