/- The library's sorting: the symmetric merge, whole. -/
import Derived.Test.YtlifcjggdandnaaT9
namespace Go.Proofs.Ytlifcjggdandnaa
open Go.Ideal
variable {w0 : World} {hk : Hooks} {h : Heap}

/-- The search for where to cut. -/
theorem tail7 (H : SortHk hk) {b g n d : Nat} (ih : SymOk w0 hk b g n d) {P A B S : List En} {Ψ : IRet → Heap → Prop} {ρ : Nat → Value} {h3 : Heap} (a : At h3 b g (P ++ A ++ B ++ S)) (hn : (P ++ A ++ B ++ S).length = n)
    (hA : Sorted A) (hB : Sorted B) (hd : A.length + B.length = d) (hA2 : 2 ≤ A.length) (hB2 : 2 ≤ B.length) (hN : n ≤ 1000)
    {p m mid q nn lo hi : Nat} (hp : P.length = p) (hm : p + A.length = m) (hq : m + B.length = q) (hmid : mid = (p + q) / 2) (hnn : nn = mid + m) (hlh : (mid < m ∧ lo + q = nn ∧ hi = mid) ∨ (m ≤ mid ∧ lo = p ∧ hi = m))
    (r0 : ρ 0 = dv b g n) (r1 : ρ 1 = .int .i64 (p : Nat)) (r2 : ρ 2 = .int .i64 (m : Nat)) (r3 : ρ 3 = .int .i64 (q : Nat)) (r4 : ρ 4 = cmpV) (r18 : ρ 18 = .int .i64 (mid : Nat))
    (r19 : ρ 19 = .int .i64 (nn : Nat)) (r20 : ρ 20 = .int .i64 (lo : Nat)) (r21 : ρ 21 = .int .i64 (hi : Nat)) (r22 : ρ 22 = .int .i64 ((nn - 1 : Nat) : Int))
    (hΨ : ∀ C h', C.length = A.length + B.length → Sorted C → Filt (A ++ B) C → At h' b g (P ++ C ++ S) → Fr [b] h3 h' → Ψ (.ret (.tuple #[])) h') : wp2 Try.prog w0 hk 220 tail_70_7 ρ h3 (retQ Try.prog w0 [] Ψ) := by
  have hl : P.length + A.length + B.length + S.length = n := by simp at hn; omega
  have hX : ∃ X, X = P ++ A ++ B ++ S := ⟨_, rfl⟩
  obtain ⟨X, hX⟩ := hX
  rw [← hX] at a hn
  have hXA : ∀ {i : Nat}, p ≤ i → i < m → X[i]? = A[i - p]? := fun {i} g1 g2 => by
    rw [hX, List.append_assoc]; exact get_at (k := i - p) (by omega) (by omega)
  have hXB : ∀ {i : Nat}, m ≤ i → i < q → X[i]? = B[i - m]? := fun {i} g1 g2 => by
    rw [hX]; exact get_at (P := P ++ A) (k := i - m) (by omega) (by simp; omega)
  have hb : p ≤ lo ∧ lo ≤ hi ∧ hi ≤ m ∧ m + hi ≤ nn ∧ nn ≤ q + lo := by omega
  obtain ⟨b1, b2, b3, b4, b5⟩ := hb
  simp only [tail_70_7]
  simp
  refine wp_rounds (fun k ρ h' => ∃ i j : Nat, k = j - i ∧ lo ≤ i ∧ i ≤ j ∧ j ≤ hi ∧ (i = lo ∨ ∃ u v, X[i - 1]? = some u ∧ X[nn - i]? = some v ∧ u.key ≤ v.key) ∧ (j = hi ∨ ∃ u v, X[nn - 1 - j]? = some v ∧ X[j]? = some u ∧ v.key < u.key) ∧
      ρ 0 = dv b g n ∧ ρ 1 = .int .i64 (p : Nat) ∧ ρ 2 = .int .i64 (m : Nat) ∧ ρ 3 = .int .i64 (q : Nat) ∧ ρ 4 = cmpV ∧ ρ 18 = .int .i64 (mid : Nat) ∧ ρ 19 = .int .i64 (nn : Nat) ∧ ρ 22 = .int .i64 ((nn - 1 : Nat) : Int) ∧
      ρ 20 = .int .i64 (i : Nat) ∧ ρ 21 = .int .i64 (j : Nat) ∧ At h' b g X ∧ Fr [b] h3 h') ?_ (k := hi - lo)
    ⟨lo, hi, rfl, by omega, by omega, by omega, .inl rfl, .inl rfl, r0, r1, r2, r3, r4, r18, r19, r22, r20, r21, a, Fr.refl _ _⟩
  rintro I hI k ρ h' ⟨i, j, rfl, hli, hij, hjh, inv1, inv2, s0, s1, s2, s3, s4, s18, s19, s22, s20, s21, at', fr⟩
  by_cases hlt : i < j
  · have hs : ∃ s : Nat, s = i + j := ⟨i + j, rfl⟩
    obtain ⟨s, hs⟩ := hs
    have hc : ∃ c : Nat, c = s / 2 := ⟨s / 2, rfl⟩
    obtain ⟨c, hc⟩ := hc
    have hu := half_int (s := s) (c := c) (by omega) hc
    have u1 := hu.1
    have u2 := hu.2.1
    have u3 := hu.2.2
    clear hu
    have i2 : IntKind.i64.wrap ((i : Int) + j) = (s : Int) := by rw [IntWalk.i64_in _ ⟨by omega, by omega⟩]; omega
    have hw : ∃ w : Nat, w = nn - 1 - c := ⟨nn - 1 - c, rfl⟩
    obtain ⟨w, hw⟩ := hw
    have i3 : IntKind.i64.wrap (((nn - 1 : Nat) : Int) - c) = (w : Int) := by rw [IntWalk.i64_in _ ⟨by omega, by omega⟩]; omega
    have l1 : c < n := by omega
    have l2 : w < n := by omega
    have hv : ∃ v, X[w]? = some v := ⟨X[w], List.getElem?_eq_getElem (by omega)⟩
    obtain ⟨v, hv⟩ := hv
    have hu : ∃ u, X[c]? = some u := ⟨X[c], List.getElem?_eq_getElem (by omega)⟩
    obtain ⟨u, hu⟩ := hu
    have q1 := at'.rd (w0 := w0) hv
    have q2 := at'.rd (w0 := w0) hu
    simp [s0, s1, s2, s3, s4, s18, s19, s20, s21, s22, hlt, i2, i3, u1, u2, u3, dv, cmpV, l1, l2, q1, q2, -rdN_mk]
    refine (cmp_spec H.h43 H.h44 H.h62 v u (at'.lf v (List.mem_of_getElem? hv)) (at'.lf u (List.mem_of_getElem? hu))).mono ?_
    rintro r h2 ⟨⟨y, rfl, hy⟩, f2⟩
    have at2 := at'.fr f2
    have fr2 := fr.trans (f2.mono (S' := [b]) (by simp))
    have i4 : IntKind.i64.wrap ((c : Int) + 1) = ((c + 1 : Nat) : Int) := IntWalk.i64_in _ ⟨by omega, by omega⟩
    by_cases hyn : y < 0
    · have hvu := hy.1 hyn
      simp [hyn]
      subst hI
      exact ⟨c - i, by omega, i, c, rfl, by omega, by omega, by omega, inv1, .inr ⟨u, v, by rw [← hv]; congr 1; omega, hu, hvu⟩, by simp [s0, dv], by simp [s1], by simp [s2], by simp [s3], by simp [s4, cmpV], by simp [s18], by simp [s19], by simp [s22], by simp [s20], by simp, at2, fr2⟩
    · have hvu : ¬ v.key < u.key := fun hh => hyn (hy.2 hh)
      simp [hyn, i4, -Int.natCast_add]
      subst hI
      exact ⟨j - (c + 1), by omega, c + 1, j, rfl, by omega, by omega, hjh, .inr ⟨u, v, by rw [← hu]; congr 1, by rw [← hv]; congr 1; omega, by omega⟩, inv2, by simp [s0, dv], by simp [s1], by simp [s2], by simp [s3], by simp [s4, cmpV], by simp [s18], by simp [s19], by simp [s22], by simp, by simp [s21], at2, fr2⟩
  · have hij : i = j := by omega
    subst hij
    simp [s0, s1, s2, s3, s4, s18, s19, s20, s21, s22]
    have hAA : ∃ A1 A2, A = A1 ++ A2 ∧ A1.length = i - p := ⟨A.take (i - p), A.drop (i - p), (List.take_append_drop _ _).symm, by simp; omega⟩
    obtain ⟨A1, A2, hA12, hA1⟩ := hAA
    have hBB : ∃ B1 B2, B = B1 ++ B2 ∧ B1.length = nn - i - m := ⟨B.take (nn - i - m), B.drop (nn - i - m), (List.take_append_drop _ _).symm, by simp; omega⟩
    obtain ⟨B1, B2, hB12, hB1⟩ := hBB
    have hal := congrArg List.length hA12
    have hbl := congrArg List.length hB12
    simp at hal hbl
    have hA' : Sorted (A1 ++ A2) := hA12 ▸ hA
    have hB' : Sorted (B1 ++ B2) := hB12 ▸ hB
    have cond1 : ∀ x ∈ A1, ∀ y ∈ B2, x.key ≤ y.key := by
      intro x hx y hy
      obtain ⟨kx, hkx⟩ := List.mem_iff_getElem?.1 hx
      obtain ⟨ky, hky⟩ := List.mem_iff_getElem?.1 hy
      have hkx' := (List.getElem?_eq_some_iff.1 hkx).1
      have hky' := (List.getElem?_eq_some_iff.1 hky).1
      rcases inv1 with hlo | ⟨u, v, hu, hv, huv⟩
      · exfalso; omega
      · rw [hXA (by omega) (by omega)] at hu
        rw [hXB (by omega) (by omega)] at hv
        have e1 := hA.le (i := kx) (j := i - 1 - p) (x := x) (y := u) (by rw [hA12, List.getElem?_append_left hkx']; exact hkx) hu (by omega)
        have e2 := hB.le (i := nn - i - m) (j := B1.length + ky) (x := v) (y := y) hv (by rw [hB12, List.getElem?_append_right (by omega), Nat.add_sub_cancel_left]; exact hky) (by omega)
        omega
    have cond2 : ∀ x ∈ A2, ∀ y ∈ B1, y.key < x.key := by
      intro x hx y hy
      obtain ⟨kx, hkx⟩ := List.mem_iff_getElem?.1 hx
      obtain ⟨ky, hky⟩ := List.mem_iff_getElem?.1 hy
      have hkx' := (List.getElem?_eq_some_iff.1 hkx).1
      have hky' := (List.getElem?_eq_some_iff.1 hky).1
      rcases inv2 with hlo | ⟨u, v, hv, hu, huv⟩
      · exfalso; omega
      · rw [hXA (by omega) (by omega)] at hu
        rw [hXB (by omega) (by omega)] at hv
        have e1 := hA.le (i := i - p) (j := A1.length + kx) (x := u) (y := x) hu (by rw [hA12, List.getElem?_append_right (by omega), Nat.add_sub_cancel_left]; exact hkx) (by omega)
        have e2 := hB.le (i := ky) (j := nn - 1 - i - m) (x := y) (y := v) (by rw [hB12, List.getElem?_append_left hky']; exact hky) hv (by omega)
        omega
    refine tail8 H ih (P := P) (A1 := A1) (A2 := A2) (B1 := B1) (B2 := B2) (S := S) (p := p) (st := i) (m := m) (mid := mid) (e := nn - i) (q := q) (nn := nn) ?_ ?_ hA' hB' ?_ ?_ hN cond1 cond2 hp ?_ ?_ ?_ ?_ ?_ hnn ?_ ?_ ?_ ?_ ?_ ?_ ?_ ?_ ?_
    · rw [hX, hA12, hB12] at at'; simpa using at'
    · rw [hX, hA12, hB12] at hn; simpa using hn
    · omega
    · omega
    · omega
    · omega
    · omega
    · omega
    · omega
    · simp [s0]
    · simp [s1]
    · simp [s2]
    · simp [s3]
    · simp [s4]
    · simp [s18]
    · simp [s19]
    · simp [s20]
    · intro C h4 d1 d2 d3 d4 d5
      exact hΨ C h4 (by omega) d2 (by rw [hA12, hB12]; exact d3) d4 (fr.trans d5)

theorem symN_spec (H : SortHk hk) {b g n d : Nat} (ih : SymOk w0 hk b g n d) {P A B S : List En} (a : At h b g (P ++ A ++ B ++ S)) (hn : (P ++ A ++ B ++ S).length = n) (hA : Sorted A) (hB : Sorted B) (hA1 : 2 ≤ A.length) (hB1 : 2 ≤ B.length) (hd : A.length + B.length = d) (hN : n ≤ 1000)
    {p m q : Nat} (hp : P.length = p) (hm : p + A.length = m) (hq : m + B.length = q) :
    Ans Try.prog w0 hk 70 [dv b g n, .int .i64 (p : Nat), .int .i64 (m : Nat), .int .i64 (q : Nat), cmpV] h (Merged b g P A B S h) := by
  refine Ans.run H.h70 cmp_70 (by simp) ?_
  simp only [code_70, tail_70_1, tail_70_2, tail_70_3, tail_70_4, tail_70_5, tail_70_6]
  have hlen : P.length + A.length + B.length + S.length = n := by simp at hn; omega
  have i1 : IntKind.i64.wrap ((m : Int) - p) = (A.length : Int) := by rw [IntWalk.i64_in _ ⟨by omega, by omega⟩]; omega
  have i1' : ¬ (A.length : Int) = 1 := by omega
  have i0 : IntKind.i64.wrap ((q : Int) - m) = (B.length : Int) := by rw [IntWalk.i64_in _ ⟨by omega, by omega⟩]; omega
  have i0' : ¬ (B.length : Int) = 1 := by omega
  have hs : ∃ s : Nat, s = p + q := ⟨p + q, rfl⟩
  obtain ⟨s, hs⟩ := hs
  have hmid : ∃ c : Nat, c = s / 2 := ⟨s / 2, rfl⟩
  obtain ⟨mid, hmid⟩ := hmid
  have hu := half_int (s := s) (c := mid) (by omega) hmid
  have u1 := hu.1
  have u2 := hu.2.1
  have u3 := hu.2.2
  clear hu
  have i2 : IntKind.i64.wrap ((p : Int) + q) = (s : Int) := by rw [IntWalk.i64_in _ ⟨by omega, by omega⟩]; omega
  have hnn : ∃ nn : Nat, nn = mid + m := ⟨mid + m, rfl⟩
  obtain ⟨nn, hnn⟩ := hnn
  have i3 : IntKind.i64.wrap ((mid : Int) + m) = (nn : Int) := by rw [IntWalk.i64_in _ ⟨by omega, by omega⟩]; omega
  have i5 : IntKind.i64.wrap ((nn : Int) - 1) = ((nn - 1 : Nat) : Int) := by rw [IntWalk.i64_in _ ⟨by omega, by omega⟩]; omega
  have fin : ∀ C h', C.length = A.length + B.length → Sorted C → Filt (A ++ B) C → At h' b g (P ++ C ++ S) → Fr [b] h h' → Merged b g P A B S h (.ret (.tuple #[])) h' := fun C h' c1 c2 c3 c4 c5 => ⟨rfl, ⟨C, c1, c2, c3, c4⟩, c5⟩
  simp [i1, i1', i0, i0', i2, u1, u2, u3, i3, i5]
  by_cases hmm : mid < m
  · have hlo : ∃ lo : Nat, lo + q = nn := ⟨nn - q, by omega⟩
    obtain ⟨lo, hlo⟩ := hlo
    have i6 : IntKind.i64.wrap ((nn : Int) - q) = (lo : Int) := by rw [IntWalk.i64_in _ ⟨by omega, by omega⟩]; omega
    simp [hmm, i6, i5]
    exact tail7 H ih a hn hA hB hd hA1 hB1 hN (lo := lo) (hi := mid) hp hm hq (by omega) hnn (.inl ⟨hmm, hlo, rfl⟩) (by simp) (by simp) (by simp) (by simp) (by simp) (by simp) (by simp) (by simp) (by simp) (by simp) fin
  · simp [hmm, i5]
    exact tail7 H ih a hn hA hB hd hA1 hB1 hN (lo := p) (hi := m) hp hm hq (by omega) hnn (.inr ⟨by omega, rfl, rfl⟩) (by simp) (by simp) (by simp) (by simp) (by simp) (by simp) (by simp) (by simp) (by simp) (by simp) fin

theorem sym_ok (H : SortHk hk) {b g n : Nat} (hN : n ≤ 1000) : ∀ d, SymOk w0 hk b g n d := by
  intro d
  induction d with
  | zero => intro P A B S h _ _ _ _ _ _ hd; omega
  | succ d ih =>
    intro P A B S h a hn hA hB lA lB hd
    by_cases hd' : A.length + B.length < d
    · exact ih P A B S h a hn hA hB lA lB hd'
    have hd : A.length + B.length = d := by omega
    have hl : P.length + A.length + B.length + S.length = n := by simp at hn; omega
    by_cases hA1 : A.length = 1
    · obtain ⟨x, rfl⟩ := List.length_eq_one_iff.1 hA1
      refine (sym1_spec (P := P) (x := x) (B := B) (S := S) H.h70 H.h43 H.h44 H.h62 (by simpa using a) (by simpa using hn) rfl (by simp) hB hN).mono ?_
      rintro r h' ⟨g1, ⟨C, c1, c2, c3, c4⟩, f⟩
      exact ⟨g1, ⟨C, by simp; omega, c2, by simpa using c3, c4⟩, f⟩
    · by_cases hB1 : B.length = 1
      · obtain ⟨y, rfl⟩ := List.length_eq_one_iff.1 hB1
        refine (sym2_spec (P := P) (A := A) (y := y) (S := S) H.h70 H.h43 H.h44 H.h62 (by simpa using a) (by simpa using hn) rfl rfl (by simp) hA1 hA hN).mono ?_
        rintro r h' ⟨g1, ⟨C, c1, c2, c3, c4⟩, f⟩
        exact ⟨g1, ⟨C, by simp; omega, c2, c3, c4⟩, f⟩
      · exact symN_spec H ih a hn hA hB (by omega) (by omega) hd hN rfl rfl rfl
end Go.Proofs.Ytlifcjggdandnaa
