/- Which first words and tries may be, by the reference; whether pairs stand in words; whether words are the same. -/
import Derived.Test.YtlifcjggdandnaaT12
namespace Go.Proofs.Ytlifcjggdandnaa
open Go.Ideal
variable {w0 : World} {hk : Hooks} {h : Heap}

set_option maxHeartbeats 2000000 in
theorem rright_spec (hf : hk 26 = none) (hf2 : hk 46 = none) {fv tv : Value} {first : List Int} {txs : List Tx} (hi : In w0 fv tv first txs) : Ans Try.prog w0 hk 26 [fv, tv] h (fun r h' => r = .ret (.bool (rightB first txs)) ∧ Fr [] h h') := by
  refine Ans.run hf cmp_26 (by simp) ?_
  simp only [code_26]
  have l1 := (hi.f h).len
  have l2 := (hi.t h).len
  by_cases h2 : first.length < 3
  · have e1 : (first.length : Int) < 3 := by omega
    simp [l1, l2, e1, Fr.refl, rightB]
    omega
  have e1 : ¬ (first.length : Int) < 3 := by omega
  have hR : rightB first txs = rightFrom first.length [] txs := by simp [rightB]; omega
  rw [hR]
  simp [l1, l2, e1]
  refine wp_rounds (fun k ρ h' => ∃ (i : Nat), i ≤ txs.length ∧ k = txs.length - i ∧ ρ 0 = fv ∧ ρ 1 = tv ∧ ρ 5 = .int .i64 (i : Nat) ∧ rightFrom first.length (txs.take i) (txs.drop i) = rightFrom first.length [] txs ∧ Fr [] h h') ?_ (k := txs.length)
    ⟨0, by simp, by simp, by simp, by simp, by simp, by simp, Fr.refl _ _⟩
  rintro I hI k ρ h' ⟨i, hi1, rfl, r0, r1, r5, hrf, fr⟩
  have l2' := (hi.t h').len
  by_cases hlt : i < txs.length
  · have ht := List.getElem?_eq_getElem hlt
    generalize txs[i] = t at ht
    have htm := List.mem_of_getElem? ht
    have tx := hi.ok t htm
    obtain ⟨b1, b2, b3, b4⟩ := hi.lt htm
    obtain ⟨e2, e8, c0, c2, c3, c4, c5, c6, c7⟩ := hi.at ht h'
    rw [drop_cons ht] at hrf
    have i3 : IntKind.i64.wrap ((i : Int) + 1) = (i : Int) + 1 := IntWalk.i64_in _ ⟨by omega, by omega⟩
    have nxt : ∀ (ρ : Nat → Value) (h4 : Heap), rightFrom first.length (txs.take i ++ [t]) (txs.drop (i + 1)) = rightFrom first.length [] txs → Fr [] h h4 → ρ 0 = fv → ρ 1 = tv → ρ 5 = .int .i64 ((i : Int) + 1) → Again I (txs.length - i) ρ h4 := by
      intro ρ h4 g1 g4 t0 t1 t5
      subst hI
      exact ⟨txs.length - (i + 1), by omega, i + 1, by omega, rfl, t0, t1, by rw [t5]; simp, by rw [take_snoc ht]; exact g1, g4⟩
    simp [r0, r1, r5, hlt, l2', e2, e8]
    refine (rstores_spec hf2 tx).mono ?_
    rintro r h3 ⟨rfl, f3⟩
    have fr3 := fr.trans f3
    cases hst : storesB t with
    | false =>
      simp [r0, r1, r5, i3]
      exact nxt _ _ (by rw [← hrf]; simp [rightFrom, hst]) fr3 (by simp [r0]) (by simp [r1]) (by simp)
    | true =>
      simp
      refine wp_rounds (fun k ρ' h4 => ∃ j, j ≤ t.ws.length ∧ k = t.ws.length - j ∧ ρ' 0 = fv ∧ ρ' 1 = tv ∧ ρ' 5 = .int .i64 (i : Nat) ∧ ρ' 6 = .int .i64 (j : Nat) ∧ (t.ws.take j).all (inRange first.length) = true ∧ Fr [] h h4) ?_ (k := t.ws.length)
        ⟨0, by simp, by simp, by simp [r0], by simp [r1], by simp [r5], by simp, by simp, fr3⟩
      rintro J hJ k ρ' h4 ⟨j, hj1, rfl, s0, s1, s5, s6, hall, fr4⟩
      obtain ⟨e2', e8', c0', c2', c3', c4', c5', c6', c7'⟩ := hi.at ht h4
      have lwv := (tx.w h4).len
      have l1' := (hi.f h4).len
      by_cases hjl : j < t.ws.length
      · have hp := List.getElem?_eq_getElem hjl
        generalize t.ws[j] = p at hp
        obtain ⟨f1, f2, f3', f4⟩ := pair_at (tx.w h4) hp
        have j3 : IntKind.i64.wrap ((j : Int) + 1) = (j : Int) + 1 := IntWalk.i64_in _ ⟨by omega, by omega⟩
        have bad : inRange first.length p = false → rightFrom first.length [] txs = false := by
          intro hb
          rw [← hrf]
          have : t.ws.all (inRange first.length) = false := by
            rw [List.all_eq_false]
            exact ⟨p, List.mem_of_getElem? hp, by simp [hb]⟩
          simp [rightFrom, hst, this]
        by_cases hp0 : p.1 < 0
        · simp [s0, s1, s5, s6, e2', c7', lwv, hjl, f1, f3', hp0]
          exact ⟨bad (by simp [inRange]; omega), fr4⟩
        · by_cases hp1 : (first.length : Int) ≤ p.1
          · simp [s0, s1, s5, s6, e2', c7', lwv, hjl, f1, f3', hp0, hp1, l1']
            exact ⟨bad (by simp [inRange]; omega), fr4⟩
          · simp [s0, s1, s5, s6, e2', c7', lwv, hjl, f1, f3', hp0, hp1, l1', j3]
            subst hJ
            refine ⟨t.ws.length - (j + 1), by omega, j + 1, by omega, rfl, by simp [s0], by simp [s1], by simp [s5], by simp, ?_, fr4⟩
            rw [take_snoc hp, List.all_append, hall]
            simp [inRange]
            omega
      · simp [s0, s1, s5, s6, e2', c7', lwv, hjl]
        rw [List.take_of_length_le (by omega)] at hall
        refine wp_rounds (fun k ρ' h4 => ∃ j, j ≤ i ∧ k = i - j ∧ ρ' 0 = fv ∧ ρ' 1 = tv ∧ ρ' 5 = .int .i64 (i : Nat) ∧ ρ' 8 = .int .i64 (j : Nat) ∧ hasS (txs.take j) t.stamp = false ∧ Fr [] h h4) ?_ (k := i)
          ⟨0, by simp, by simp, by simp [s0], by simp [s1], by simp [s5], by simp, by simp [hasS], fr4⟩
        clear s0 s1 s5 s6 e2' e8' c0' c2' c3' c4' c5' c6' c7' lwv l1' hjl hj1 fr4 hJ
        rintro K hK k ρ' h4 ⟨j, hj1, rfl, s0, s1, s5, s8, hno, fr4⟩
        by_cases hjl : j < i
        · have hu := List.getElem?_eq_getElem (l := txs) (i := j) (by omega)
          generalize txs[j] = u at hu
          have ux := hi.ok u (List.mem_of_getElem? hu)
          obtain ⟨g2, g8, gg0, gg2, gg3, gg4, gg5, gg6, gg7⟩ := hi.at hu h4
          have j3 : IntKind.i64.wrap ((j : Int) + 1) = (j : Int) + 1 := IntWalk.i64_in _ ⟨by omega, by omega⟩
          simp [s0, s1, s5, s8, hjl, g2, g8]
          refine (rstores_spec hf2 ux).mono ?_
          rintro r h5 ⟨rfl, f5⟩
          obtain ⟨k2, k8, kk0, kk2, kk3, kk4, kk5, kk6, kk7⟩ := hi.at hu h5
          obtain ⟨m2, m8, mm0, mm2, mm3, mm4, mm5, mm6, mm7⟩ := hi.at ht h5
          have nj : (storesB u && decide (u.stamp = t.stamp)) = false → hasS (txs.take (j + 1)) t.stamp = false := fun hb => by
            rw [take_snoc hu, hasS_append, hno, hb]; rfl
          cases hsu : storesB u with
          | false =>
            simp [s0, s1, s5, s8, j3]
            subst hK
            exact ⟨i - (j + 1), by omega, j + 1, by omega, rfl, by simp [s0], by simp [s1], by simp [s5], by simp, nj (by simp [hsu]), fr4.trans f5⟩
          | true =>
            by_cases hse : u.stamp = t.stamp
            · simp [s0, s1, s5, s8, k2, kk3, m2, mm3, hse]
              refine ⟨?_, fr4.trans f5⟩
              rw [← hrf]
              have : hasS (txs.take i) t.stamp = true := by
                unfold hasS
                rw [List.any_eq_true]
                exact ⟨u, List.mem_of_getElem? (i := j) (by rw [List.getElem?_take, if_pos hjl]; exact hu), by simp [hsu, hse]⟩
              simp [rightFrom, hst, this]
            · simp [s0, s1, s5, s8, k2, kk3, m2, mm3, hse, j3]
              subst hK
              exact ⟨i - (j + 1), by omega, j + 1, by omega, rfl, by simp [s0], by simp [s1], by simp [s5], by simp, nj (by simp [hsu, hse]), fr4.trans f5⟩
        · have : j = i := by omega
          subst this
          simp [s0, s1, s5, s8, i3]
          exact nxt _ _ (by rw [← hrf]; simp only [rightFrom, hst, hno, hall]; simp) fr4 (by simp [s0]) (by simp [s1]) (by simp)
  · simp [r0, r1, r5, l2', hlt]
    rw [List.drop_of_length_le (by omega)] at hrf
    exact ⟨by rw [← hrf]; rfl, fr⟩

theorem standsB_append (w : List Int) (l : List (Int × Int)) (p : Int × Int) : standsB w (l ++ [p]) = (standsB w l && (decide (0 ≤ p.1) && (w[p.1.toNat]? == some p.2))) := by simp [standsB]

theorem stood_spec (hf : hk 23 = none) {wv rv : Value} {w : List Int} {l : List (Int × Int)} (hw : ∀ h', Fr [] h h' → Sl w0 h' wv 1 (w.map irow1)) (hr : ∀ h', Sl w0 h' rv 2 (l.map prow)) (hl : l.length < 9223372036854775000) :
    Ans Try.prog w0 hk 23 [wv, rv] h (fun r h' => r = .ret (.bool (standsB w l)) ∧ Fr [] h h') := by
  refine Ans.run hf cmp_23 (by simp) ?_
  simp only [code_23]
  have l1 := (hr h).len
  simp [l1]
  refine wp_rounds (fun k ρ h' => ∃ (i : Nat), i ≤ l.length ∧ k = l.length - i ∧ ρ 0 = wv ∧ ρ 7 = rv ∧ ρ 8 = .int .i64 (l.length : Nat) ∧ ρ 9 = .int .i64 (i : Nat) ∧ standsB w (l.take i) = true ∧ Fr [] h h') ?_ (k := l.length)
    ⟨0, by simp, by simp, by simp, by simp, by simp, by simp, by simp [standsB], Fr.refl _ _⟩
  rintro I hI k ρ h' ⟨i, hi1, rfl, r0, r7, r8, r9, hst, fr⟩
  by_cases hlt : i < l.length
  · have hp := List.getElem?_eq_getElem hlt
    generalize l[i] = p at hp
    obtain ⟨f1, f2, f3, f4⟩ := pair_at (hr h') hp
    have fr2 := fr.trans (Fr.append [] h' [.row (prow p) 55 0])
    have hw2 := hw _ fr2
    have l2 := hw2.len
    have i3 : IntKind.i64.wrap ((i : Int) + 1) = (i : Int) + 1 := IntWalk.i64_in _ ⟨by omega, by omega⟩
    have bad : (decide (0 ≤ p.1) && (w[p.1.toNat]? == some p.2)) = false → standsB w l = false := fun hb => by
      unfold standsB
      rw [List.all_eq_false]
      exact ⟨p, List.mem_of_getElem? hp, by rw [hb]; simp⟩
    by_cases hp0 : p.1 < 0
    · simp [r0, r7, r8, r9, hlt, f1, f2, prow, hp0]
      exact ⟨bad (by simp; omega), fr2⟩
    · simp only [prow] at fr2 hw2 l2
      by_cases hp1 : (w.length : Int) ≤ p.1
      · simp [r0, r7, r8, r9, hlt, f1, f2, prow, hp0, hp1, l2]
        refine ⟨bad ?_, fr2⟩
        rw [List.getElem?_eq_none (by omega)]; simp
      · have hx := List.getElem?_eq_getElem (l := w) (i := p.1.toNat) (by omega)
        generalize w[p.1.toNat] = x at hx
        obtain ⟨q1, q2⟩ := int_at hw2 hx
        have e1 : ((p.1.toNat : Nat) : Int) = p.1 := by omega
        rw [e1] at q1
        by_cases hxe : x = p.2
        · simp [r0, r7, r8, r9, hlt, f1, f2, prow, hp0, hp1, l2, q1, q2, hxe, i3]
          subst hI
          refine ⟨l.length - (i + 1), by omega, i + 1, by omega, rfl, by simp [r0], by simp [r7], by simp [r8], by simp, ?_, fr2⟩
          rw [take_snoc hp, standsB_append, hst, hx, hxe]
          simp; omega
        · simp [r0, r7, r8, r9, hlt, f1, f2, prow, hp0, hp1, l2, q1, q2, hxe]
          exact ⟨bad (by rw [hx]; simp [hxe]), fr2⟩
  · simp [r0, r7, r8, r9, hlt]
    rw [List.take_of_length_le (by omega)] at hst
    exact ⟨hst, fr⟩

theorem same_spec (hf : hk 14 = none) {av bv : Value} {x y : List Int} (ha : Sl w0 h av 1 (x.map irow1)) (hb : Sl w0 h bv 1 (y.map irow1)) (hx : x.length < 9223372036854775000) :
    Ans Try.prog w0 hk 14 [av, bv] h (fun r h' => r = .ret (.bool (decide (x = y))) ∧ h' = h) := by
  refine Ans.run hf cmp_14 (by simp) ?_
  simp only [code_14]
  have l1 := ha.len
  have l2 := hb.len
  by_cases hl : x.length = y.length
  · have e1 : (x.length : Int) = y.length := by omega
    simp [l1, l2, e1]
    refine wp_rounds (fun k ρ h' => ∃ (i : Nat), i ≤ x.length ∧ k = x.length - i ∧ ρ 0 = av ∧ ρ 1 = bv ∧ ρ 5 = .int .i64 (i : Nat) ∧ x.take i = y.take i ∧ h' = h) ?_ (k := x.length)
      ⟨0, by simp, by simp, by simp, by simp, by simp, by simp, rfl⟩
    rintro I hI k ρ h' ⟨i, hi1, rfl, r0, r1, r5, htk, rfl⟩
    by_cases hlt : i < x.length
    · have hu := List.getElem?_eq_getElem hlt
      generalize x[i] = u at hu
      have hv := List.getElem?_eq_getElem (l := y) (i := i) (by omega)
      generalize y[i] = v at hv
      obtain ⟨a1, a2⟩ := int_at ha hu
      obtain ⟨b1, b2⟩ := int_at hb hv
      have i3 : IntKind.i64.wrap ((i : Int) + 1) = (i : Int) + 1 := IntWalk.i64_in _ ⟨by omega, by omega⟩
      have hly : i < y.length := by omega
      by_cases huv : u = v
      · simp [r0, r1, r5, l1, hlt, hly, hl, a1, a2, b1, b2, huv, i3]
        subst hI
        exact ⟨_, by omega, i + 1, by omega, rfl, by simp [r0], by simp [r1], by simp, by rw [take_snoc hu, take_snoc hv, htk, huv], rfl⟩
      · simp [r0, r1, r5, l1, hlt, hly, hl, a1, a2, b1, b2, huv]
        intro hxy
        rw [hxy] at hu
        rw [hu] at hv
        exact huv (Option.some.inj hv)
    · have hly : ¬ i < y.length := by omega
      simp [r0, r1, r5, l1, hlt, hl, hly]
      rw [List.take_of_length_le (by omega), List.take_of_length_le (by omega)] at htk
      exact htk
  · have e1 : ¬ (x.length : Int) = y.length := by omega
    simp [l1, l2, e1]
    exact fun hxy => hl (by rw [hxy])
end Go.Proofs.Ytlifcjggdandnaa
