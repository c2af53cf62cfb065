/- The library's sorting: by insertion. -/
import Derived.Test.YtlifcjggdandnaaT6
namespace Go.Proofs.Ytlifcjggdandnaa
open Go.Ideal
variable {w0 : World} {hk : Hooks} {h : Heap}

theorem get_mid (P : List En) (x : En) (S : List En) {i : Nat} (hi : i = P.length) : (P ++ x :: S)[i]? = some x := by
  subst hi; rw [List.getElem?_append_right (Nat.le_refl _)]; simp
theorem swp_adj' (P : List En) (y x : En) (S : List En) {i j : Nat} (hi : i = P.length + 1) (hj : j = P.length) : swp (P ++ y :: x :: S) i j = P ++ x :: y :: S := by
  subst hi hj
  rw [swp_eq (x := x) (y := y) (by rw [show P ++ y :: x :: S = (P ++ [y]) ++ x :: S by simp]; exact get_mid _ _ _ (by simp)) (get_mid _ _ _ rfl)]
  rw [List.set_append_right _ _ (by omega), Nat.add_sub_cancel_left, List.set_append_right _ _ (by omega), Nat.sub_self]
  simp

theorem insert_sorted {A1 A2 : List En} {x : En} (h : Sorted (A1 ++ A2)) (h1 : ∀ y ∈ A1, y.key ≤ x.key) (h2 : ∀ y ∈ A2, x.key < y.key) : Sorted (A1 ++ x :: A2) := by
  have ⟨g1, g2, g3⟩ := List.pairwise_append.1 h
  refine List.pairwise_append.2 ⟨g1, List.pairwise_cons.2 ⟨fun y hy => by have := h2 y hy; omega, g2⟩, fun a ha y hy => ?_⟩
  rcases List.mem_cons.1 hy with rfl | hy
  · exact h1 a ha
  · exact g3 a ha y hy
theorem insert_filt {A1 A2 : List En} {x : En} (h2 : ∀ y ∈ A2, x.key < y.key) : Filt (A1 ++ A2 ++ [x]) (A1 ++ x :: A2) := by
  have := Filt.parts A1 [] (filt_swap (A := A2) (B := [x]) (by simpa using h2))
  simpa using this

theorem insertion_spec (hf : hk 69 = none) (hf1 : hk 43 = none) (hf2 : hk 44 = none) (hf3 : hk 62 = none) {b g n p q : Nat} {P M S : List En} (a : At h b g (P ++ M ++ S)) (hn : (P ++ M ++ S).length = n) (hp : P.length = p) (hq : p + M.length = q) (hN : n ≤ 1000) :
    Ans Try.prog w0 hk 69 [dv b g n, .int .i64 (p : Nat), .int .i64 (q : Nat), cmpV] h (fun r h' => r = .ret (.tuple #[]) ∧ (∃ C, C.length = M.length ∧ Sorted C ∧ Filt M C ∧ At h' b g (P ++ C ++ S)) ∧ Fr [b] h h') := by
  refine Ans.run hf cmp_69 (by simp) ?_
  simp only [code_69]
  have hlen : P.length + M.length + S.length = n := by simpa [Nat.add_assoc] using hn
  have i1 : IntKind.i64.wrap ((p : Int) + 1) = ((p + 1 : Nat) : Int) := IntWalk.i64_in _ ⟨by omega, by omega⟩
  simp [i1, -Int.natCast_add]
  refine wp_rounds (fun k ρ h' => ∃ (A D : List En) (i : Nat), k = D.length ∧ A.length + D.length = M.length ∧ Sorted A ∧ Filt M (A ++ D) ∧ (D ≠ [] → i = p + A.length) ∧ (D = [] → q ≤ i) ∧ i ≤ 1001 ∧
      ρ 0 = dv b g n ∧ ρ 1 = .int .i64 (p : Nat) ∧ ρ 2 = .int .i64 (q : Nat) ∧ ρ 3 = cmpV ∧ ρ 8 = .int .i64 (i : Nat) ∧ At h' b g (P ++ A ++ D ++ S) ∧ Fr [b] h h') ?_ (k := M.length - 1) ?_
  · rintro I hI k ρ h' ⟨A, D, i, rfl, hl, hs, hfl, hi1, hi2, hi3, r0, r1, r2, r3, r8, at', fr⟩
    by_cases hlt : i < q
    · have hD : D ≠ [] := fun hh => by have := hi2 hh; omega
      obtain ⟨x, D, rfl⟩ := List.exists_cons_of_ne_nil hD
      have hi := hi1 hD
      simp only [List.length_cons] at hl
      simp [r0, r1, r2, r3, r8, hlt]
      refine wp_rounds (fun k ρ h' => ∃ (A1 A2 : List En) (j : Nat), k = A1.length ∧ A = A1 ++ A2 ∧ (∀ y ∈ A2, x.key < y.key) ∧ j = p + A1.length ∧
        ρ 0 = dv b g n ∧ ρ 1 = .int .i64 (p : Nat) ∧ ρ 2 = .int .i64 (q : Nat) ∧ ρ 3 = cmpV ∧ ρ 8 = .int .i64 (i : Nat) ∧ ρ 9 = .int .i64 (j : Nat) ∧ At h' b g (P ++ A1 ++ x :: A2 ++ D ++ S) ∧ Fr [b] h h') ?_ (k := A.length)
        ⟨A, [], i, rfl, by simp, by simp, hi, by simp [r0], by simp [r1], by simp [r2], by simp [r3], by simp [r8], by simp, by simpa using at', fr⟩
      rintro J hJ k ρ h' ⟨A1, A2, j, rfl, rfl, hA2, rfl, s0, s1, s2, s3, s8, s9, at2, fr2⟩
      have fin : ∀ y ∈ A2, x.key < y.key := hA2
      have i8 : IntKind.i64.wrap ((i : Int) + 1) = ((i + 1 : Nat) : Int) := IntWalk.i64_in _ ⟨by omega, by omega⟩
      have done : (∀ y ∈ A1, y.key ≤ x.key) → ∀ ρ' h2, ρ' 0 = dv b g n → ρ' 1 = .int .i64 (p : Nat) → ρ' 2 = .int .i64 (q : Nat) → ρ' 3 = cmpV → ρ' 8 = .int .i64 ((i + 1 : Nat) : Int) → At h2 b g (P ++ A1 ++ x :: A2 ++ D ++ S) → Fr [b] h h2 → Again I (x :: D).length ρ' h2 := by
        intro hle ρ' h2 t0 t1 t2 t3 t8 a3 f3
        subst hI
        refine ⟨D.length, by simp, A1 ++ x :: A2, D, i + 1, rfl, by simp at hl ⊢; omega, insert_sorted hs hle hA2, ?_, fun _ => by simp at hi ⊢; omega, fun hh => by subst hh; simp at hl hi; omega, by omega, t0, t1, t2, t3, t8, by simpa using a3, f3⟩
        refine hfl.trans ?_
        have e1 : A1 ++ A2 ++ x :: D = (A1 ++ A2 ++ [x]) ++ D := by simp
        rw [e1]
        exact (insert_filt hA2).append (Filt.refl D)
      by_cases h0 : A1 = []
      · subst h0
        simp [s0, s1, s2, s3, s8, s9, i8, -Int.natCast_add]
        exact done (by simp) _ _ (by simp [s0]) (by simp [s1]) (by simp [s2]) (by simp [s3]) (by simp) at2 fr2
      · obtain ⟨B, y, rfl⟩ : ∃ B y, A1 = B ++ [y] := ⟨A1.dropLast, A1.getLast h0, (List.dropLast_concat_getLast h0).symm⟩
        have hj : (p : Int) < ((p + (B ++ [y]).length : Nat) : Int) := by simp; omega
        have ij : IntKind.i64.wrap (((p + (B ++ [y]).length : Nat) : Int) - 1) = ((p + B.length : Nat) : Int) := by rw [IntWalk.i64_in _ ⟨by simp at hl ⊢; omega, by simp at hl ⊢; omega⟩]; simp; omega
        have e2 : P ++ (B ++ [y]) ++ x :: A2 ++ D ++ S = (P ++ B) ++ y :: x :: (A2 ++ D ++ S) := by simp
        rw [e2] at at2
        have gx : ((P ++ B) ++ y :: x :: (A2 ++ D ++ S))[p + (B ++ [y]).length]? = some x := by
          rw [show (P ++ B) ++ y :: x :: (A2 ++ D ++ S) = (P ++ B ++ [y]) ++ x :: (A2 ++ D ++ S) by simp]; exact get_mid _ _ _ (by simp; omega)
        have gy : ((P ++ B) ++ y :: x :: (A2 ++ D ++ S))[p + B.length]? = some y := get_mid _ _ _ (by simp; omega)
        obtain ⟨Y, hY⟩ : ∃ Y, Y = (P ++ B) ++ y :: x :: (A2 ++ D ++ S) := ⟨_, rfl⟩
        rw [← hY] at at2 gx gy
        have l1 : p + (B ++ [y]).length < n := by simp at hl ⊢; omega
        have l2 : p + B.length < n := by simp at hl ⊢; omega
        have q1 := at2.rd (w0 := w0) gx
        have q2 := at2.rd (w0 := w0) gy
        generalize hjj : p + (B ++ [y]).length = j at *
        generalize hkk : p + B.length = k' at *
        have hpj : p < j := by omega
        simp [s0, s1, s2, s3, s8, s9, hpj, ij, l1, l2, dv, q1, q2, cmpV, -rdN_mk, -wrN_mk]
        refine (cmp_spec hf1 hf2 hf3 x y (at2.lf x (List.mem_of_getElem? gx)) (at2.lf y (List.mem_of_getElem? gy))).mono ?_
        rintro r h2 ⟨⟨c, rfl, hc⟩, f2⟩
        have at3 := at2.fr f2
        have fr3 := fr2.trans (f2.mono (S' := [b]) (by simp))
        by_cases hcn : c < 0
        · obtain ⟨w1, w2, w3, w4, w5⟩ := at3.swap (w0 := w0) gx gy
          simp [s0, s1, s2, s3, s8, s9, hcn, ij, l1, l2, dv, w1, w2, w3, w4, cmpV, -rdN_mk, -wrN_mk]
          subst hJ
          rw [hY, swp_adj' (P ++ B) y x (A2 ++ D ++ S) (by simp at hjj ⊢; omega) (by simp; omega)] at w5 ⊢
          refine ⟨B.length, by simp, B, y :: A2, p + B.length, rfl, by simp, ?_, rfl, by simp [s0, dv], by simp [s1], by simp [s2], by simp [s3, cmpV], by simp [s8], by simp [hkk], by simpa using w5, fr3.trans (Fr.set _ _ _ (by simp))⟩
          intro z hz
          rcases List.mem_cons.1 hz with rfl | hz
          · exact hc.1 hcn
          · exact hA2 z hz
        · have hxy : ¬ x.key < y.key := fun hh => hcn (hc.2 hh)
          simp [s0, s1, s2, s3, s8, s9, hcn, i8, -Int.natCast_add]
          refine done ?_ _ _ (by simp [s0, dv]) (by simp [s1]) (by simp [s2]) (by simp [s3, cmpV]) (by simp) (by rw [e2, ← hY]; exact at3) fr3
          have hsA : Sorted (B ++ [y]) := (List.pairwise_append.1 hs).1
          intro z hz
          have := hsA.last_le z hz
          omega
    · have hD : D = [] := by
        cases D with
        | nil => rfl
        | cons x D => have := hi1 (by simp); simp at hl; omega
      subst hD
      simp [r0, r1, r2, r3, r8, hlt]
      exact ⟨⟨A, by simpa using hl, hs, by simpa using hfl, by simpa using at'⟩, fr⟩
  · cases M with
    | nil => exact ⟨[], [], p + 1, rfl, rfl, List.Pairwise.nil, Filt.refl _, by simp, fun _ => by simp at hq; omega, by omega, by simp, by simp, by simp, by simp, by simp, by simpa using a, Fr.refl _ _⟩
    | cons x D => exact ⟨[x], D, p + 1, by simp, by simp; omega, List.pairwise_singleton _ _, Filt.refl _, fun _ => by simp, fun hh => by subst hh; simp at hq; omega, by simp at hlen; omega, by simp, by simp, by simp, by simp, by simp, by simpa using a, Fr.refl _ _⟩
end Go.Proofs.Ytlifcjggdandnaa
