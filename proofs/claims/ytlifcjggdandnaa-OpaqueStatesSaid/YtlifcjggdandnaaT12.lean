/- Which first words and tries may be: the program and its reference. -/
import Derived.Test.YtlifcjggdandnaaT11
namespace Go.Proofs.Ytlifcjggdandnaa
open Go.Ideal
variable {w0 : World} {hk : Hooks} {h : Heap}

def hasS (l : List Tx) (s : Int) : Bool := l.any fun t => storesB t && decide (t.stamp = s)
def inRange (n : Nat) (p : Int × Int) : Bool := decide (0 ≤ p.1) && decide (p.1 < n)
def rightFrom (n : Nat) : List Tx → List Tx → Bool
  | _, [] => true
  | done, t :: r => if storesB t then (!hasS done t.stamp && t.ws.all (inRange n)) && rightFrom n (done ++ [t]) r else rightFrom n (done ++ [t]) r
def rightB (first : List Int) (txs : List Tx) : Bool := decide (2 < first.length) && rightFrom first.length [] txs

theorem mfind_mput (k k' : Int) (v : Value) : ∀ es, mfind k' (mput k v es) = if k' = k then some v else mfind k' es
  | [] => by simp [mput, mfind]
  | e :: es => by
    simp only [mput]
    by_cases h1 : k = e.1
    · rw [if_pos h1]
      simp only [mfind]
      by_cases h2 : k' = k
      · rw [if_pos h2, if_pos h2]
      · rw [if_neg h2, if_neg h2, if_neg (by rw [← h1]; exact h2)]
    · rw [if_neg h1]
      simp only [mfind]
      by_cases h2 : k' = e.1
      · rw [if_pos h2, if_pos h2, if_neg (by rw [h2]; exact fun h3 => h1 h3.symm)]
      · rw [if_neg h2, if_neg h2, mfind_mput k k' v es]

theorem hasS_append (l : List Tx) (t : Tx) (s : Int) : hasS (l ++ [t]) s = (hasS l s || (storesB t && decide (t.stamp = s))) := by simp [hasS]

theorem drop_cons {txs : List Tx} {i : Nat} {t : Tx} (ht : txs[i]? = some t) : txs.drop i = t :: txs.drop (i + 1) := by
  obtain ⟨h1, rfl⟩ := List.getElem?_eq_some_iff.1 ht
  exact List.drop_eq_getElem_cons h1
theorem take_snoc {α : Type} {txs : List α} {i : Nat} {t : α} (ht : txs[i]? = some t) : txs.take (i + 1) = txs.take i ++ [t] := by
  rw [List.take_add_one, ht]; rfl

theorem isMap71 : isMapT Try.prog 71 = true := by kernel_rfl

set_option maxHeartbeats 2000000 in
theorem right_spec (hf : hk 21 = none) (hf2 : hk 41 = none) {fv tv : Value} {first : List Int} {txs : List Tx} (hi : In w0 fv tv first txs) : Ans Try.prog w0 hk 21 [fv, tv] h (fun r h' => r = .ret (.bool (rightB first txs)) ∧ Fr [] h h') := by
  refine Ans.run hf cmp_21 (by simp) ?_
  simp only [code_21]
  have l1 := (hi.f h).len
  have l2 := (hi.t h).len
  have l3 := (hi.t (h ++ [.map []])).len
  by_cases h2 : first.length ≤ 2
  · have e1 : (first.length : Int) ≤ 2 := by omega
    simp [l1, l2, e1, Fr.refl, rightB]
    omega
  have e1 : ¬ (first.length : Int) ≤ 2 := by omega
  have hR : rightB first txs = rightFrom first.length [] txs := by simp [rightB]; omega
  rw [hR]
  simp [l1, l2, e1, isMap71]
  refine wp_rounds (fun k ρ h' => ∃ (i : Nat) (es : List (Int × Value)), i ≤ txs.length ∧ k = txs.length - i ∧ ρ 0 = fv ∧ ρ 5 = .map (some h.length) ∧ ρ 14 = tv ∧ ρ 15 = .int .i64 (txs.length : Nat) ∧ ρ 16 = .int .i64 (i : Nat) ∧
      h'[h.length]? = some (.map es) ∧ (∀ s, (mfind s es).getD (.int .i64 0) = .int .i64 (if hasS (txs.take i) s then 1 else 0)) ∧ rightFrom first.length (txs.take i) (txs.drop i) = rightFrom first.length [] txs ∧ Fr [] h h') ?_ (k := txs.length)
    ⟨0, [], by simp, by simp, by simp, by simp, by simp, by simp, by simp, by simp, by simp [mfind, hasS], by simp, Fr.append _ _ _⟩
  rintro I hI k ρ h' ⟨i, es, hi1, rfl, r0, r5, r14, r15, r16, hM, hes, hrf, fr⟩
  by_cases hlt : i < txs.length
  · have ht := List.getElem?_eq_getElem hlt
    generalize txs[i] = t at ht
    have htm := List.mem_of_getElem? ht
    have tx := hi.ok t htm
    obtain ⟨b1, b2, b3, b4⟩ := hi.lt htm
    obtain ⟨e2, e8, c0, c2, c3, c4, c5, c6, c7⟩ := hi.at ht h'
    have lv := tx.lr
    have lw := tx.lw
    rw [drop_cons ht] at hrf
    have i3 : IntKind.i64.wrap ((i : Int) + 1) = (i : Int) + 1 := IntWalk.i64_in _ ⟨by omega, by omega⟩
    have nxt : ∀ (ρ : Nat → Value) (h4 : Heap) (es' : List (Int × Value)), rightFrom first.length (txs.take i ++ [t]) (txs.drop (i + 1)) = rightFrom first.length [] txs → (∀ s, (mfind s es').getD (.int .i64 0) = .int .i64 (if hasS (txs.take i ++ [t]) s then 1 else 0)) →
        h4[h.length]? = some (.map es') → Fr [] h h4 → ρ 0 = fv → ρ 5 = .map (some h.length) → ρ 14 = tv → ρ 15 = .int .i64 (txs.length : Nat) → ρ 16 = .int .i64 ((i : Int) + 1) → Again I (txs.length - i) ρ h4 := by
      intro ρ h4 es' g1 g2 g3 g4 t0 t5 t14 t15 t16
      subst hI
      exact ⟨txs.length - (i + 1), by omega, i + 1, es', by omega, rfl, t0, t5, t14, t15, by rw [t16]; simp, g3, by rw [take_snoc ht]; exact g2, by rw [take_snoc ht]; exact g1, g4⟩
    have hXM : ∀ X, (h' ++ X)[h.length]? = some (.map es) := fun X => by rw [List.getElem?_append_left (lt_of_get hM)]; exact hM
    simp [r0, r5, r14, r15, r16, hlt, e2, e8, lv, lw, Tx.cells]
    refine (stores_spec hf2 tx).mono ?_
    rintro r h3 ⟨rfl, f3⟩
    have hM3 := f3.same h.length _ (by simp) (hXM _)
    have hT3 := f3.same h'.length (.row [.int .i64 t.worker, .int .i64 t.how, .int .i64 t.seen, .int .i64 t.stamp, .bool t.fall, .bool t.sure, t.rv, t.wv] 53 0) (by simp) (by simp)
    have fr3 := (fr.trans (Fr.append _ _ _)).trans f3
    have hne : h.length ≠ h'.length := by have := lt_of_get hM; omega
    cases hst : storesB t with
    | false =>
      simp [r0, r5, r14, r15, r16, i3]
      refine nxt _ _ es ?_ ?_ hM3 fr3 (by simp [r0]) (by simp [r5]) (by simp [r14]) (by simp [r15]) (by simp)
      · rw [← hrf]; simp [rightFrom, hst]
      · intro s; rw [hasS_append, hst]; simpa using hes s
    | true =>
      cases hh : hasS (txs.take i) t.stamp with
      | true =>
        have hv := hes t.stamp
        rw [hh] at hv
        simp [r0, r5, r14, r15, r16, hM3, hT3, hv]
        refine ⟨?_, fr3⟩
        rw [← hrf]; simp [rightFrom, hst, hh]
      | false =>
        have hv := hes t.stamp
        rw [hh] at hv
        have hne2 : ¬ h.length = h'.length := hne
        have hT4 : ∀ o, (h3.set h.length o)[h'.length]? = some (.row [.int .i64 t.worker, .int .i64 t.how, .int .i64 t.seen, .int .i64 t.stamp, .bool t.fall, .bool t.sure, t.rv, t.wv] 53 0) := fun o => by rw [List.getElem?_set_ne hne]; exact hT3
        have hw1 : IntKind.i64.wrap 1 = 1 := rfl
        have lwv := (tx.w h').len
        simp [r0, r5, r14, r15, r16, hM3, hT3, hv, hT4, hw1, lwv]
        refine wp_rounds (fun k ρ' h4 => ∃ j, j ≤ t.ws.length ∧ k = t.ws.length - j ∧ ρ' 0 = fv ∧ ρ' 5 = .map (some h.length) ∧ ρ' 14 = tv ∧ ρ' 15 = .int .i64 (txs.length : Nat) ∧ ρ' 16 = .int .i64 (i : Nat) ∧ ρ' 34 = t.wv ∧ ρ' 35 = .int .i64 (t.ws.length : Nat) ∧ ρ' 36 = .int .i64 (j : Nat) ∧
          h4[h.length]? = some (.map (mput t.stamp (.int .i64 1) es)) ∧ (t.ws.take j).all (inRange first.length) = true ∧ Fr [] h h4) ?_ (k := t.ws.length)
          ⟨0, by simp, by simp, by simp [r0], by simp [r5], by simp [r14], by simp [r15], by simp [r16], by simp, by simp, by simp, by rw [List.getElem?_set_self (lt_of_get hM3)], by simp, fr3.setNew _ _ (Nat.le_refl _)⟩
        rintro J hJ k ρ' h4 ⟨j, hj1, rfl, s0, s5, s14, s15, s16, s34, s35, s36, hM4, hall, fr4⟩
        have l1' := (hi.f h4).len
        by_cases hjl : j < t.ws.length
        · have hp := List.getElem?_eq_getElem hjl
          generalize t.ws[j] = p at hp
          obtain ⟨f1, f2, f3', f4⟩ := pair_at (tx.w h4) hp
          have j3 : IntKind.i64.wrap ((j : Int) + 1) = (j : Int) + 1 := IntWalk.i64_in _ ⟨by omega, by omega⟩
          have bad : inRange first.length p = false → rightFrom first.length [] txs = false := by
            intro hb
            rw [← hrf]
            have : t.ws.all (inRange first.length) = false := by
              rw [List.all_eq_false]
              exact ⟨p, List.mem_of_getElem? hp, by simp [hb]⟩
            simp [rightFrom, hst, hh, this]
          have hX4 : ∀ X, (h4 ++ X)[h.length]? = some (.map (mput t.stamp (.int .i64 1) es)) := fun X => by rw [List.getElem?_append_left (lt_of_get hM4)]; exact hM4
          by_cases hp0 : p.1 < 0
          · simp [s0, s5, s14, s15, s16, s34, s35, s36, hjl, f1, f2, prow, hp0]
            exact ⟨bad (by simp [inRange]; omega), fr4.trans (Fr.append _ _ _)⟩
          · by_cases hp1 : (first.length : Int) ≤ p.1
            · simp [s0, s5, s14, s15, s16, s34, s35, s36, hjl, f1, f2, prow, hp0, hp1, l1']
              exact ⟨bad (by simp [inRange]; omega), fr4.trans (Fr.append _ _ _)⟩
            · simp [s0, s5, s14, s15, s16, s34, s35, s36, hjl, f1, f2, prow, hp0, hp1, l1', j3]
              subst hJ
              refine ⟨t.ws.length - (j + 1), by omega, j + 1, by omega, rfl, by simp [s0], by simp [s5], by simp [s14], by simp [s15], by simp [s16], by simp [s34], by simp [s35], by simp, hX4 _, ?_, fr4.trans (Fr.append _ _ _)⟩
              rw [take_snoc hp, List.all_append, hall]
              simp [inRange]
              omega
        · simp [s0, s5, s14, s15, s16, s34, s35, s36, hjl, i3]
          rw [List.take_of_length_le (by omega)] at hall
          refine nxt _ _ _ ?_ ?_ hM4 fr4 (by simp [s0]) (by simp [s5]) (by simp [s14]) (by simp [s15]) (by simp)
          · rw [← hrf]; simp only [rightFrom, hst, hh, hall]; simp
          · intro s
            rw [hasS_append, hst, mfind_mput]
            by_cases hs : s = t.stamp
            · simp [hs]
            · have := hes s
              rw [if_neg hs, this]
              simp [Ne.symm hs]
  · simp [r0, r5, r14, r15, r16, hlt]
    rw [List.drop_of_length_le (by omega)] at hrf
    exact ⟨by rw [← hrf]; rfl, fr⟩
end Go.Proofs.Ytlifcjggdandnaa
