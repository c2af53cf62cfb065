/- The library's sorting: parts of one entry are merged. -/
import Derived.Test.YtlifcjggdandnaaT7
namespace Go.Proofs.Ytlifcjggdandnaa
open Go.Ideal
variable {w0 : World} {hk : Hooks} {h : Heap}

theorem half_int {s c : Nat} (hs : s < 4611686018427387904) (hc : c = s / 2) : IntKind.u64.wrap ((s : Nat) : Int) = s ∧ Int.fdiv ((s : Nat) : Int) (2 ^ min 1 IntKind.u64.bits) = (c : Nat) ∧ IntKind.i64.wrap ((c : Nat) : Int) = c := by
  refine ⟨IntWalk.u64_in _ ⟨by omega, by omega⟩, ?_, IntWalk.i64_in _ ⟨by omega, by omega⟩⟩
  rw [show (2 : Int) ^ min 1 IntKind.u64.bits = 2 from rfl, Int.fdiv_eq_ediv_of_nonneg _ (by omega)]
  omega

theorem insert_sorted' {A1 A2 : List En} {x : En} (h : Sorted (A1 ++ A2)) (h1 : ∀ y ∈ A1, y.key ≤ x.key) (h2 : ∀ y ∈ A2, x.key ≤ y.key) : Sorted (A1 ++ x :: A2) := by
  have ⟨g1, g2, g3⟩ := List.pairwise_append.1 h
  refine List.pairwise_append.2 ⟨g1, List.pairwise_cons.2 ⟨h2, g2⟩, fun a ha y hy => ?_⟩
  rcases List.mem_cons.1 hy with rfl | hy
  · exact h1 a ha
  · exact g3 a ha y hy

theorem Sorted.le {A : List En} (h : Sorted A) {i j : Nat} {x y : En} (hx : A[i]? = some x) (hy : A[j]? = some y) (hij : i ≤ j) : x.key ≤ y.key := by
  obtain ⟨h1, rfl⟩ := List.getElem?_eq_some_iff.1 hx
  obtain ⟨h2, rfl⟩ := List.getElem?_eq_some_iff.1 hy
  rcases Nat.lt_or_ge i j with hlt | hge
  · exact List.pairwise_iff_getElem.1 h i j h1 h2 hlt
  · have : i = j := by omega
    subst this; omega

set_option maxHeartbeats 2000000 in
theorem sym1_spec (hf : hk 70 = none) (hf1 : hk 43 = none) (hf2 : hk 44 = none) (hf3 : hk 62 = none) {b g n p q : Nat} {P B S : List En} {x : En} (a : At h b g (P ++ x :: B ++ S)) (hn : (P ++ x :: B ++ S).length = n) (hp : P.length = p) (hq : p + 1 + B.length = q) (hB : Sorted B) (hN : n ≤ 1000) :
    Ans Try.prog w0 hk 70 [dv b g n, .int .i64 (p : Nat), .int .i64 ((p + 1 : Nat) : Int), .int .i64 (q : Nat), cmpV] h (fun r h' => r = .ret (.tuple #[]) ∧ (∃ C, C.length = B.length + 1 ∧ Sorted C ∧ Filt (x :: B) C ∧ At h' b g (P ++ C ++ S)) ∧ Fr [b] h h') := by
  refine Ans.run hf cmp_70 (by simp) ?_
  simp only [code_70]
  have hlen : P.length + (B.length + 1) + S.length = n := by simp at hn; omega
  have hm : ∃ m : Nat, m = p + 1 := ⟨p + 1, rfl⟩
  obtain ⟨m, hm⟩ := hm
  rw [← hm]
  have i1 : IntKind.i64.wrap ((m : Int) - p) = 1 := by rw [IntWalk.i64_in _ ⟨by omega, by omega⟩]; omega
  have hX : ∃ X, X = P ++ x :: B ++ S := ⟨_, rfl⟩
  obtain ⟨X, hX⟩ := hX
  rw [← hX] at a hn
  have gx : X[p]? = some x := by rw [hX, List.append_assoc]; exact get_mid P x (B ++ S) hp.symm
  have gB : ∀ k, k < B.length → X[m + k]? = B[k]? := fun k hk => by
    rw [hX, List.append_assoc, List.getElem?_append_right (by omega), List.cons_append, show m + k - P.length = k + 1 by omega, List.getElem?_cons_succ, List.getElem?_append_left hk]
  simp [i1]
  refine wp_rounds (fun k ρ h' => ∃ i j : Nat, k = j - i ∧ m ≤ i ∧ i ≤ j ∧ j ≤ q ∧ (∀ k y, B[k]? = some y → (m + k < i → y.key < x.key) ∧ (j ≤ m + k → x.key ≤ y.key)) ∧
      ρ 0 = dv b g n ∧ ρ 1 = .int .i64 (p : Nat) ∧ ρ 4 = cmpV ∧ ρ 10 = .int .i64 (i : Nat) ∧ ρ 11 = .int .i64 (j : Nat) ∧ At h' b g X ∧ Fr [b] h h') ?_ (k := q - m)
    ⟨m, q, rfl, by omega, by omega, by omega, fun k y hy => ⟨fun hh => by omega, fun hh => by have := (List.getElem?_eq_some_iff.1 hy).1; omega⟩, by simp, by simp, by simp, by simp, by simp, a, Fr.refl _ _⟩
  rintro I hI k ρ h' ⟨i, j, rfl, hmi, hij, hjq, hinv, r0, r1, r4, r10, r11, at', fr⟩
  by_cases hlt : i < j
  · have hs : ∃ s : Nat, s = i + j := ⟨i + j, rfl⟩
    obtain ⟨s, hs⟩ := hs
    have hc : ∃ c : Nat, c = s / 2 := ⟨s / 2, rfl⟩
    obtain ⟨c, hc⟩ := hc
    have hu := half_int (s := s) (c := c) (by omega) hc
    have u1 := hu.1
    have u2 := hu.2.1
    have u3 := hu.2.2
    clear hu
    have i2 : IntKind.i64.wrap ((i : Int) + j) = (s : Int) := by rw [IntWalk.i64_in _ ⟨by omega, by omega⟩]; omega
    have hcm : c - m < B.length := by omega
    have hy : ∃ y, B[c - m]? = some y := ⟨B[c - m], List.getElem?_eq_getElem hcm⟩
    obtain ⟨y, hy⟩ := hy
    have gy : X[c]? = some y := by rw [← hy, ← gB (c - m) (by omega)]; congr 1; omega
    have q1 := at'.rd (w0 := w0) gx
    have q2 := at'.rd (w0 := w0) gy
    have l1 : c < n := by omega
    have l2 : p < n := by omega
    simp [r0, r1, r4, r10, r11, hlt, i2, u1, u2, u3, dv, cmpV, l1, l2, q1, q2, -rdN_mk]
    refine (cmp_spec hf1 hf2 hf3 y x (at'.lf y (List.mem_of_getElem? gy)) (at'.lf x (List.mem_of_getElem? gx))).mono ?_
    rintro r h2 ⟨⟨v, rfl, hv⟩, f2⟩
    have at2 := at'.fr f2
    have fr2 := fr.trans (f2.mono (S' := [b]) (by simp))
    have i3 : IntKind.i64.wrap ((c : Int) + 1) = ((c + 1 : Nat) : Int) := IntWalk.i64_in _ ⟨by omega, by omega⟩
    by_cases hvn : v < 0
    · have hyx := hv.1 hvn
      simp [hvn, i3, -Int.natCast_add]
      subst hI
      refine ⟨j - (c + 1), by omega, c + 1, j, rfl, by omega, by omega, hjq, fun k z hz => ⟨fun hh => ?_, (hinv k z hz).2⟩, by simp [r0, dv], by simp [r1], by simp [r4, cmpV], by simp, by simp [r11], at2, fr2⟩
      have := hB.le hz hy (by omega)
      omega
    · have hyx : ¬ y.key < x.key := fun hh => hvn (hv.2 hh)
      simp [hvn]
      subst hI
      refine ⟨c - i, by omega, i, c, rfl, by omega, by omega, by omega, fun k z hz => ⟨(hinv k z hz).1, fun hh => ?_⟩, by simp [r0, dv], by simp [r1], by simp [r4, cmpV], by simp [r10], by simp, at2, fr2⟩
      have := hB.le hy hz (by omega)
      omega
  · have hij : i = j := by omega
    subst hij
    simp [r0, r1, r4, r10, r11]
    have hBB : ∃ B1 B2, B = B1 ++ B2 ∧ B1.length = i - m := ⟨B.take (i - m), B.drop (i - m), (List.take_append_drop _ _).symm, by simp; omega⟩
    obtain ⟨B1, B2, hB12, hB1⟩ := hBB
    have c1 : ∀ y ∈ B1, y.key < x.key := fun y hy => by
      obtain ⟨k, hk⟩ := List.mem_iff_getElem?.1 hy
      have hk' := (List.getElem?_eq_some_iff.1 hk).1
      exact (hinv k y (by rw [hB12, List.getElem?_append_left hk']; exact hk)).1 (by omega)
    have c2 : ∀ y ∈ B2, x.key ≤ y.key := fun y hy => by
      obtain ⟨k, hk⟩ := List.mem_iff_getElem?.1 hy
      exact (hinv (B1.length + k) y (by rw [hB12, List.getElem?_append_right (by omega), Nat.add_sub_cancel_left]; exact hk)).2 (by omega)
    have i4 : IntKind.i64.wrap ((i : Int) - 1) = ((p + B1.length : Nat) : Int) := by rw [IntWalk.i64_in _ ⟨by omega, by omega⟩]; omega
    refine wp_rounds (fun k ρ h' => ∃ (D E : List En) (t : Nat), k = E.length ∧ B1 = D ++ E ∧ t = p + D.length ∧ ρ 0 = dv b g n ∧ ρ 10 = .int .i64 (i : Nat) ∧ ρ 13 = .int .i64 (t : Nat) ∧ At h' b g (P ++ D ++ x :: E ++ B2 ++ S) ∧ Fr [b] h h') ?_ (k := B1.length)
      ⟨[], B1, p, rfl, by simp, by simp, by simp [r0], by simp [r10], by simp, by rw [hX, hB12] at at'; simpa using at', fr⟩
    rintro J hJ k ρ' h2 ⟨D, E, t, rfl, hDE, ht, s0, s10, s13, at2, fr2⟩
    have hb1 := congrArg List.length hDE
    have hb := congrArg List.length hB12
    simp at hb1 hb
    cases E with
    | nil =>
      have e1 : ¬ (t : Int) < ((p + B1.length : Nat) : Int) := by simp at hb1; omega
      have hD : D = B1 := by simpa using hDE.symm
      simp [s0, s10, s13, i4, e1, -Int.natCast_add]
      refine ⟨⟨B1 ++ x :: B2, by simp; omega, insert_sorted' (hB12 ▸ hB) (fun y hy => by have := c1 y hy; omega) c2, ?_, by rw [← hD]; simpa using at2⟩, fr2⟩
      have := Filt.parts [] B2 (filt_swap (A := [x]) (B := B1) (by simpa using c1))
      rw [hB12]
      simpa using this
    | cons y E =>
      have e1 : (t : Int) < ((p + B1.length : Nat) : Int) := by simp at hb1; omega
      have i5 : IntKind.i64.wrap ((t : Int) + 1) = ((t + 1 : Nat) : Int) := IntWalk.i64_in _ ⟨by omega, by omega⟩
      simp only [List.length_cons] at hb1
      have hY : ∃ Y, Y = (P ++ D) ++ x :: y :: (E ++ B2 ++ S) := ⟨_, rfl⟩
      obtain ⟨Y, hY⟩ := hY
      have at3 : At h2 b g Y := by rw [hY]; simpa using at2
      have g1 : Y[t]? = some x := by rw [hY]; exact get_mid _ _ _ (by simp; omega)
      have g2 : Y[t + 1]? = some y := by rw [hY, show (P ++ D) ++ x :: y :: (E ++ B2 ++ S) = (P ++ D ++ [x]) ++ y :: (E ++ B2 ++ S) by simp]; exact get_mid _ _ _ (by simp; omega)
      obtain ⟨w1, w2, w3, w4, w5⟩ := at3.swap (w0 := w0) g1 g2
      have l1 : t < n := by omega
      have l2 : t + 1 < n := by omega
      simp [s0, s10, s13, i4, i5, e1, l1, l2, dv, w1, w2, w3, w4, -rdN_mk, -wrN_mk, -Int.natCast_add]
      subst hJ
      have hsw := swp_adj (P ++ D) x y (E ++ B2 ++ S)
      rw [show (P ++ D).length = t by simp; omega] at hsw
      rw [hY, hsw] at w5 ⊢
      exact ⟨E.length, by simp, D ++ [y], E, t + 1, rfl, by rw [hDE]; simp, by simp; omega, by simp [s0, dv], by simp [s10], by simp, by simpa using w5, fr2.trans (Fr.set _ _ _ (by simp))⟩

set_option maxHeartbeats 2000000 in
theorem sym2_spec (hf : hk 70 = none) (hf1 : hk 43 = none) (hf2 : hk 44 = none) (hf3 : hk 62 = none) {b g n p m q : Nat} {P A S : List En} {y : En} (a : At h b g (P ++ A ++ y :: S)) (hn : (P ++ A ++ y :: S).length = n) (hp : P.length = p) (hm : p + A.length = m) (hq : m + 1 = q) (hA1 : A.length ≠ 1) (hA : Sorted A) (hN : n ≤ 1000) :
    Ans Try.prog w0 hk 70 [dv b g n, .int .i64 (p : Nat), .int .i64 (m : Nat), .int .i64 (q : Nat), cmpV] h (fun r h' => r = .ret (.tuple #[]) ∧ (∃ C, C.length = A.length + 1 ∧ Sorted C ∧ Filt (A ++ [y]) C ∧ At h' b g (P ++ C ++ S)) ∧ Fr [b] h h') := by
  refine Ans.run hf cmp_70 (by simp) ?_
  simp only [code_70, tail_70_1]
  have hlen : P.length + A.length + (S.length + 1) = n := by simp at hn; omega
  have i1 : IntKind.i64.wrap ((m : Int) - p) = (A.length : Int) := by rw [IntWalk.i64_in _ ⟨by omega, by omega⟩]; omega
  have i1' : ¬ (A.length : Int) = 1 := by omega
  have i0 : IntKind.i64.wrap ((q : Int) - m) = 1 := by rw [IntWalk.i64_in _ ⟨by omega, by omega⟩]; omega
  have hX : ∃ X, X = P ++ A ++ y :: S := ⟨_, rfl⟩
  obtain ⟨X, hX⟩ := hX
  rw [← hX] at a hn
  have gy : X[m]? = some y := by rw [hX]; exact get_mid (P ++ A) y S (by simp; omega)
  have gA : ∀ k, k < A.length → X[p + k]? = A[k]? := fun k hk => by
    rw [hX, List.append_assoc, List.getElem?_append_right (by omega), show p + k - P.length = k by omega, List.getElem?_append_left hk]
  simp [i1, i1', i0]
  refine wp_rounds (fun k ρ h' => ∃ i j : Nat, k = j - i ∧ p ≤ i ∧ i ≤ j ∧ j ≤ m ∧ (∀ k z, A[k]? = some z → (p + k < i → z.key ≤ y.key) ∧ (j ≤ p + k → y.key < z.key)) ∧
      ρ 0 = dv b g n ∧ ρ 2 = .int .i64 (m : Nat) ∧ ρ 4 = cmpV ∧ ρ 14 = .int .i64 (i : Nat) ∧ ρ 15 = .int .i64 (j : Nat) ∧ At h' b g X ∧ Fr [b] h h') ?_ (k := m - p)
    ⟨p, m, rfl, by omega, by omega, by omega, fun k z hz => ⟨fun hh => by omega, fun hh => by have := (List.getElem?_eq_some_iff.1 hz).1; omega⟩, by simp, by simp, by simp, by simp, by simp, a, Fr.refl _ _⟩
  rintro I hI k ρ h' ⟨i, j, rfl, hmi, hij, hjq, hinv, r0, r2, r4, r14, r15, at', fr⟩
  by_cases hlt : i < j
  · have hs : ∃ s : Nat, s = i + j := ⟨i + j, rfl⟩
    obtain ⟨s, hs⟩ := hs
    have hc : ∃ c : Nat, c = s / 2 := ⟨s / 2, rfl⟩
    obtain ⟨c, hc⟩ := hc
    have hu := half_int (s := s) (c := c) (by omega) hc
    have u1 := hu.1
    have u2 := hu.2.1
    have u3 := hu.2.2
    clear hu
    have i2 : IntKind.i64.wrap ((i : Int) + j) = (s : Int) := by rw [IntWalk.i64_in _ ⟨by omega, by omega⟩]; omega
    have hcm : c - p < A.length := by omega
    have hz : ∃ z, A[c - p]? = some z := ⟨A[c - p], List.getElem?_eq_getElem hcm⟩
    obtain ⟨z, hz⟩ := hz
    have gz : X[c]? = some z := by rw [← hz, ← gA (c - p) (by omega)]; congr 1; omega
    have q1 := at'.rd (w0 := w0) gy
    have q2 := at'.rd (w0 := w0) gz
    have l1 : c < n := by omega
    have l2 : m < n := by omega
    simp [r0, r2, r4, r14, r15, hlt, i2, u1, u2, u3, dv, cmpV, l1, l2, q1, q2, -rdN_mk]
    refine (cmp_spec hf1 hf2 hf3 y z (at'.lf y (List.mem_of_getElem? gy)) (at'.lf z (List.mem_of_getElem? gz))).mono ?_
    rintro r h2 ⟨⟨v, rfl, hv⟩, f2⟩
    have at2 := at'.fr f2
    have fr2 := fr.trans (f2.mono (S' := [b]) (by simp))
    have i3 : IntKind.i64.wrap ((c : Int) + 1) = ((c + 1 : Nat) : Int) := IntWalk.i64_in _ ⟨by omega, by omega⟩
    by_cases hvn : v < 0
    · have hyz := hv.1 hvn
      simp [hvn]
      subst hI
      refine ⟨c - i, by omega, i, c, rfl, by omega, by omega, by omega, fun k z' hz' => ⟨(hinv k z' hz').1, fun hh => ?_⟩, by simp [r0, dv], by simp [r2], by simp [r4, cmpV], by simp [r14], by simp, at2, fr2⟩
      have := hA.le hz hz' (by omega)
      omega
    · have hyz : ¬ y.key < z.key := fun hh => hvn (hv.2 hh)
      simp [hvn, i3, -Int.natCast_add]
      subst hI
      refine ⟨j - (c + 1), by omega, c + 1, j, rfl, by omega, by omega, hjq, fun k z' hz' => ⟨fun hh => ?_, (hinv k z' hz').2⟩, by simp [r0, dv], by simp [r2], by simp [r4, cmpV], by simp, by simp [r15], at2, fr2⟩
      have := hA.le hz' hz (by omega)
      omega
  · have hij : i = j := by omega
    subst hij
    simp [r0, r2, r4, r14, r15]
    have hAA : ∃ A1 A2, A = A1 ++ A2 ∧ A1.length = i - p := ⟨A.take (i - p), A.drop (i - p), (List.take_append_drop _ _).symm, by simp; omega⟩
    obtain ⟨A1, A2, hA12, hA1⟩ := hAA
    have hal := congrArg List.length hA12
    simp at hal
    have c1 : ∀ z ∈ A1, z.key ≤ y.key := fun z hz => by
      obtain ⟨k, hk⟩ := List.mem_iff_getElem?.1 hz
      have hk' := (List.getElem?_eq_some_iff.1 hk).1
      exact (hinv k z (by rw [hA12, List.getElem?_append_left hk']; exact hk)).1 (by omega)
    have c2 : ∀ z ∈ A2, y.key < z.key := fun z hz => by
      obtain ⟨k, hk⟩ := List.mem_iff_getElem?.1 hz
      exact (hinv (A1.length + k) z (by rw [hA12, List.getElem?_append_right (by omega), Nat.add_sub_cancel_left]; exact hk)).2 (by omega)
    refine wp_rounds (fun k ρ h' => ∃ (D E : List En) (t : Nat), k = D.length ∧ A2 = D ++ E ∧ t = i + D.length ∧ ρ 0 = dv b g n ∧ ρ 14 = .int .i64 (i : Nat) ∧ ρ 17 = .int .i64 (t : Nat) ∧ At h' b g (P ++ A1 ++ D ++ y :: E ++ S) ∧ Fr [b] h h') ?_ (k := A2.length)
      ⟨A2, [], m, rfl, by simp, by omega, by simp [r0], by simp [r14], by simp, by rw [hX, hA12] at at'; simpa using at', fr⟩
    rintro J hJ k ρ' h2 ⟨D, E, t, rfl, hDE, ht, s0, s14, s17, at2, fr2⟩
    have hb1 := congrArg List.length hDE
    simp at hb1
    rcases List.eq_nil_or_concat D with rfl | ⟨D, z, rfl⟩
    · have e1 : ¬ i < t := by simp at ht; omega
      simp [s0, s14, s17, e1]
      have hE : A2 = E := by simpa using hDE
      subst hE
      refine ⟨⟨A1 ++ y :: A2, by simp; omega, insert_sorted' (hA12 ▸ hA) c1 (fun z hz => by have := c2 z hz; omega), ?_, by simpa using at2⟩, fr2⟩
      have := Filt.parts A1 [] (filt_swap (A := A2) (B := [y]) (by simpa using c2))
      rw [hA12]
      simpa using this
    · simp only [List.concat_eq_append] at *
      have ht' : t = i + D.length + 1 := by simp at ht; omega
      have e1 : i < t := by omega
      have i5 : IntKind.i64.wrap ((t : Int) - 1) = ((i + D.length : Nat) : Int) := by rw [IntWalk.i64_in _ ⟨by omega, by omega⟩]; omega
      have hY : ∃ Y, Y = (P ++ A1 ++ D) ++ z :: y :: (E ++ S) := ⟨_, rfl⟩
      obtain ⟨Y, hY⟩ := hY
      have at3 : At h2 b g Y := by rw [hY]; simpa using at2
      have g1 : Y[t]? = some y := by rw [hY, show (P ++ A1 ++ D) ++ z :: y :: (E ++ S) = (P ++ A1 ++ D ++ [z]) ++ y :: (E ++ S) by simp]; exact get_mid _ _ _ (by simp; omega)
      have g2 : Y[i + D.length]? = some z := by rw [hY]; exact get_mid _ _ _ (by simp; omega)
      obtain ⟨w1, w2, w3, w4, w5⟩ := at3.swap (w0 := w0) g1 g2
      simp at hb1
      have l1 : t < n := by omega
      have l2 : i + D.length < n := by omega
      simp [s0, s14, s17, i5, e1, l1, l2, dv, w1, w2, w3, w4, -rdN_mk, -wrN_mk, -Int.natCast_add]
      subst hJ
      rw [hY, swp_adj' (P ++ A1 ++ D) z y (E ++ S) (by simp; omega) (by simp; omega)] at w5 ⊢
      exact ⟨D.length, by simp, D, z :: E, i + D.length, rfl, by rw [hDE]; simp, rfl, by simp [s0, dv], by simp [s14], by simp, by simpa using w5, fr2.trans (Fr.set _ _ _ (by simp))⟩
end Go.Proofs.Ytlifcjggdandnaa
