/- The library's sorting: a range is turned. -/
import Derived.Test.YtlifcjggdandnaaT3
namespace Go.Proofs.Ytlifcjggdandnaa
open Go.Ideal
variable {w0 : World} {hk : Hooks} {h : Heap}

theorem rotate_spec (hf : hk 73 = none) (hf2 : hk 74 = none) {b g n p m q : Nat} {P U W S : List En} (a : At h b g (P ++ U ++ W ++ S)) (hn : (P ++ U ++ W ++ S).length = n) (hp : P.length = p) (hm : p + U.length = m) (hq : m + W.length = q)
    (hU : 0 < U.length) (hW : 0 < W.length) (hN : n ≤ 1000) :
    Ans Try.prog w0 hk 73 [dv b g n, .int .i64 (p : Nat), .int .i64 (m : Nat), .int .i64 (q : Nat), cmpV] h (fun r h' => r = .ret (.tuple #[]) ∧ At h' b g (P ++ W ++ U ++ S) ∧ Fr [b] h h') := by
  refine Ans.run hf cmp_73 (by simp) ?_
  simp only [code_73]
  have hlen : P.length + U.length + W.length + S.length = n := by simpa [Nat.add_assoc] using hn
  have i1 : IntKind.i64.wrap ((m : Int) - p) = (U.length : Int) := by rw [IntWalk.i64_in _ ⟨by omega, by omega⟩]; omega
  have i2 : IntKind.i64.wrap ((q : Int) - m) = (W.length : Int) := by rw [IntWalk.i64_in _ ⟨by omega, by omega⟩]; omega
  simp [i1, i2]
  refine wp_rounds (fun k ρ h' => ∃ P' U' W' S' : List En, k = U'.length + W'.length ∧ P'.length + U'.length = m ∧ 0 < U'.length ∧ 0 < W'.length ∧ P'.length + U'.length + W'.length + S'.length = n ∧ P' ++ W' ++ U' ++ S' = P ++ W ++ U ++ S ∧
      ρ 0 = dv b g n ∧ ρ 2 = .int .i64 (m : Nat) ∧ ρ 4 = cmpV ∧ ρ 10 = .int .i64 (U'.length : Nat) ∧ ρ 11 = .int .i64 (W'.length : Nat) ∧ At h' b g (P' ++ U' ++ W' ++ S') ∧ Fr [b] h h') ?_ (k := U.length + W.length)
    ⟨P, U, W, S, rfl, by omega, hU, hW, hlen, rfl, by simp, by simp, by simp, by simp, by simp, a, Fr.refl _ _⟩
  rintro I hI k ρ h' ⟨P', U', W', S', rfl, hm', hU', hW', hl', hT, r0, r2, r4, r10, r11, at', fr⟩
  have hl2 : (P' ++ U' ++ W' ++ S').length = n := by simp; omega
  rcases Nat.lt_trichotomy U'.length W'.length with hlt | heq | hgt
  · -- the second part is longer
    have e1 : ¬ (U'.length : Int) = W'.length := by omega
    have e2 : ¬ W'.length < U'.length := by omega
    have e3 : ¬ U'.length = W'.length := by omega
    have i3 : IntKind.i64.wrap ((m : Int) - U'.length) = ((P'.length : Nat) : Int) := by rw [IntWalk.i64_in _ ⟨by omega, by omega⟩]; omega
    have i4 : IntKind.i64.wrap ((m : Int) + W'.length) = ((m + W'.length : Nat) : Int) := by rw [IntWalk.i64_in _ ⟨by omega, by omega⟩]; omega
    have i5 : IntKind.i64.wrap (((m + W'.length : Nat) : Int) - U'.length) = ((m + W'.length - U'.length : Nat) : Int) := by rw [IntWalk.i64_in _ ⟨by omega, by omega⟩]; omega
    have i6 : IntKind.i64.wrap ((W'.length : Int) - U'.length) = ((W'.length - U'.length : Nat) : Int) := by rw [IntWalk.i64_in _ ⟨by omega, by omega⟩]; omega
    simp [r0, r2, r4, r10, r11, e1, e2, e3, i3, i4, i5, i6, -Int.natCast_add]
    refine (swapRange_spec (n := n) hf2 at' hl2 (p := P'.length) (q := m + W'.length - U'.length) (k := U'.length) (by omega) (by omega) hN).mono ?_
    rintro r h2 ⟨rfl, a2, f2⟩
    simp [r10, r11, i6]
    have hw : W' = W'.take (W'.length - U'.length) ++ W'.drop (W'.length - U'.length) := (List.take_append_drop _ _).symm
    generalize hW1 : W'.take (W'.length - U'.length) = W1 at hw
    generalize hW2 : W'.drop (W'.length - U'.length) = W2 at hw
    have l1 : W1.length = W'.length - U'.length := by rw [← hW1]; simp
    have l2 : W2.length = U'.length := by rw [← hW2]; simp; omega
    have hs := swapN_parts P' U' W1 W2 S' U'.length rfl l2
    have e : P' ++ U' ++ W' ++ S' = P' ++ U' ++ W1 ++ W2 ++ S' := by rw [hw]; simp
    rw [e, show m + W'.length - U'.length = P'.length + U'.length + W1.length by omega, hs] at a2
    subst hI
    refine ⟨_, ?_, P', W2, W1, U' ++ S', rfl, by omega, by omega, by omega, by simp; omega, ?_, by simp [r0], by simp [r2], by simp [r4], by simp [r10, l2], by simp [l1], by simpa using a2, fr.trans f2⟩
    · omega
    · rw [← hT, hw]; simp
  · -- of one length
    have i3 : IntKind.i64.wrap ((m : Int) - W'.length) = ((P'.length : Nat) : Int) := by rw [IntWalk.i64_in _ ⟨by omega, by omega⟩]; omega
    simp [r0, r2, r4, r10, r11, heq, i3]
    refine (swapRange_spec (n := n) hf2 at' hl2 (p := P'.length) (q := m) (k := W'.length) (by omega) (by omega) hN).mono ?_
    rintro r h2 ⟨rfl, a2, f2⟩
    simp
    have hs := swapN_parts P' U' [] W' S' W'.length (by omega) rfl
    simp only [List.append_nil, List.length_nil, Nat.add_zero] at hs
    rw [show m = P'.length + W'.length by omega, hs] at a2
    exact ⟨by rw [← List.append_assoc, ← List.append_assoc, ← hT]; exact a2, fr.trans f2⟩
  · -- the first part is longer
    have e1 : ¬ (U'.length : Int) = W'.length := by omega
    have e3 : ¬ U'.length = W'.length := by omega
    have i3 : IntKind.i64.wrap ((m : Int) - U'.length) = ((P'.length : Nat) : Int) := by rw [IntWalk.i64_in _ ⟨by omega, by omega⟩]; omega
    have i6 : IntKind.i64.wrap ((U'.length : Int) - W'.length) = ((U'.length - W'.length : Nat) : Int) := by rw [IntWalk.i64_in _ ⟨by omega, by omega⟩]; omega
    simp [r0, r2, r4, r10, r11, e1, hgt, e3, i3, i6, -Int.natCast_add]
    refine (swapRange_spec (n := n) hf2 at' hl2 (p := P'.length) (q := m) (k := W'.length) (by omega) (by omega) hN).mono ?_
    rintro r h2 ⟨rfl, a2, f2⟩
    simp [r10, r11, i6]
    have hu : U' = U'.take W'.length ++ U'.drop W'.length := (List.take_append_drop _ _).symm
    generalize hU1 : U'.take W'.length = U1 at hu
    generalize hU2 : U'.drop W'.length = U2 at hu
    have l1 : U1.length = W'.length := by rw [← hU1]; simp; omega
    have l2 : U2.length = U'.length - W'.length := by rw [← hU2]; simp
    have hs := swapN_parts P' U1 U2 W' S' W'.length l1 rfl
    have e : P' ++ U' ++ W' ++ S' = P' ++ U1 ++ U2 ++ W' ++ S' := by rw [hu]; simp
    rw [e, show m = P'.length + W'.length + U2.length by omega, hs] at a2
    subst hI
    refine ⟨_, ?_, P' ++ W', U2, U1, S', rfl, by simp; omega, by omega, by omega, by simp; omega, ?_, by simp [r0], by simp [r2], by simp [r4], by simp [l2], by simp [r11, l1], a2, fr.trans f2⟩
    · omega
    · rw [← hT, hu]; simp
end Go.Proofs.Ytlifcjggdandnaa
