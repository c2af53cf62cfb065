/- The reference's check; the laws. -/
import Derived.Test.YtlifcjggdandnaaT19
namespace Go.Proofs.Ytlifcjggdandnaa
open Go.Ideal
variable {w0 : World} {hk : Hooks} {h : Heap}

set_option maxHeartbeats 4000000 in
theorem rcheck_spec (hf : hk 9 = none) (R : RefHk hk) {fv tv : Value} {first : List Int} {txs : List Tx} (hi : In w0 fv tv first txs) (hl : Lim first txs) {L : List En} (hL : rightB first txs = true → OkL txs L) :
    Ans Try.prog w0 hk 9 [fv, tv] h (fun r h' => r = .ret (.int .i64 (if rightB first txs then chkV first txs L else 2)) ∧ Fr [] h h') := by
  refine Ans.run hf cmp_9 (by simp) ?_
  simp only [code_9]
  simp
  refine (rright_spec R.h26 R.h46 hi).mono ?_
  rintro r h1 ⟨rfl, f1⟩
  cases hr : rightB first txs with
  | false => simp; exact f1
  | true =>
    have hL := hL hr
    simp
    refine wp_rounds (fun k ρ h' => ∃ (i : Nat), i ≤ txs.length ∧ k = txs.length - i ∧ ρ 0 = fv ∧ ρ 1 = tv ∧ ρ 5 = .int .i64 (i : Nat) ∧ (txs.take i).all (okT first L) = true ∧ Fr [] h1 h') ?_ (k := txs.length)
      ⟨0, by simp, by simp, by simp, by simp, by simp, by simp, Fr.refl _ _⟩
    rintro I hI k ρ h' ⟨i, hi1, rfl, r0, r1, r5, hall, fr⟩
    have l2 := (hi.t h').len
    by_cases hlt : i < txs.length
    · have ht := List.getElem?_eq_getElem hlt
      generalize txs[i] = t at ht
      have htm := List.mem_of_getElem? ht
      have tx := hi.ok t htm
      obtain ⟨b1, b2, b3, b4⟩ := hi.lt htm
      obtain ⟨e2, e8, c0, c2, c3, c4, c5, c6, c7⟩ := hi.at ht h'
      have lr := (tx.r h').len
      have i3 : IntKind.i64.wrap ((i : Int) + 1) = (i : Int) + 1 := IntWalk.i64_in _ ⟨by omega, by omega⟩
      have good : okT first L t = true → ∀ (ρ : Nat → Value) (h4 : Heap), Fr [] h1 h4 → ρ 0 = fv → ρ 1 = tv → ρ 5 = .int .i64 ((i : Int) + 1) → Again I (txs.length - i) ρ h4 := by
        intro hg ρ h4 g4 t0 t1 t5
        subst hI
        exact ⟨txs.length - (i + 1), by omega, i + 1, by omega, rfl, t0, t1, by rw [t5]; simp, by rw [take_snoc ht, List.all_append, hall]; simp [hg], g4⟩
      by_cases hrs : t.rs = []
      · have hz : (t.rs.length : Int) = 0 := by rw [hrs]; rfl
        simp [r0, r1, r5, l2, hlt, e2, c6, lr, hz, hrs, i3]
        exact good (okT_nil hrs) _ _ fr (by simp [r0]) (by simp [r1]) (by simp)
      · have hz : ¬ (t.rs.length : Int) = 0 := by have := List.length_pos_iff.2 hrs; omega
        simp [r0, r1, r5, l2, hlt, e2, c6, c2, lr, hz, hrs]
        refine (rstate_spec R hi hr hl.f hL t.seen false).mono ?_
        rintro r h2 ⟨b, hb, rfl, h3, f2⟩
        rw [cOf_false] at h3
        simp
        have fr2 := fr.trans f2
        refine wp_rounds (fun k ρ h' => ∃ (j : Nat), j ≤ t.rs.length ∧ k = t.rs.length - j ∧ ρ 0 = fv ∧ ρ 1 = tv ∧ ρ 5 = .int .i64 (i : Nat) ∧ ρ 6 = .slice (some ⟨b, 0, some 0⟩) first.length 0 ∧ ρ 7 = .int .i64 (j : Nat) ∧ standsB (stW first L fun x => decide (x ≤ t.seen)) (t.rs.take j) = true ∧ Fr [] h2 h') ?_ (k := t.rs.length)
          ⟨0, by simp, by simp, by simp [r0], by simp [r1], by simp [r5], by simp, by simp, by simp [standsB], Fr.refl _ _⟩
        rintro J hJ k ρ' h4 ⟨j, hj1, rfl, s0, s1, s5, s6, s7, hst, f4⟩
        obtain ⟨e2', e8', c0', c2', c3', c4', c5', c6', c7'⟩ := hi.at ht h4
        have lr' := (tx.r h4).len
        have fr4 := fr2.trans f4
        by_cases hjl : j < t.rs.length
        · have hp := List.getElem?_eq_getElem hjl
          generalize t.rs[j] = p at hp
          obtain ⟨g1, g2, g3, g4⟩ := pair_at (tx.r h4) hp
          have j3 : IntKind.i64.wrap ((j : Int) + 1) = (j : Int) + 1 := IntWalk.i64_in _ ⟨by omega, by omega⟩
          have fr5 := fr4.trans (Fr.append [] h4 [.row [.int .i64 p.1, .int .i64 p.2] 55 0])
          have f5 := f4.trans (Fr.append [] h4 [.row [.int .i64 p.1, .int .i64 p.2] 55 0])
          have hw5 := f5.same b _ (by simp) h3
          have hsl := Sl.ints (w0 := w0) hw5
          rw [stW_len] at hsl
          have bad : (decide (0 ≤ p.1) && ((stW first L fun x => decide (x ≤ t.seen))[p.1.toNat]? == some p.2)) = false → chkV first txs L = 19 := fun hb => by
            refine chkV_bad htm ?_
            unfold okT standsB
            rw [List.all_eq_false]
            exact ⟨p, List.mem_of_getElem? hp, by rw [hb]; simp⟩
          by_cases hp0 : p.1 < 0
          · simp [s0, s1, s5, s6, s7, e2', c6', lr', hjl, g1, g2, prow, hp0]
            exact ⟨(bad (by simp; omega)).symm, f1.trans fr5⟩
          · by_cases hp1 : (first.length : Int) ≤ p.1
            · simp [s0, s1, s5, s6, s7, e2', c6', lr', hjl, g1, g2, prow, hp0, hp1]
              refine ⟨(bad ?_).symm, f1.trans fr5⟩
              rw [List.getElem?_eq_none (by rw [stW_len]; omega)]; simp
            · have hx : ∃ x, (stW first L fun x => decide (x ≤ t.seen))[p.1.toNat]? = some x := ⟨_, List.getElem?_eq_getElem (by rw [stW_len]; omega)⟩
              obtain ⟨x, hx⟩ := hx
              obtain ⟨q1, q2⟩ := int_at hsl hx
              have e1 : ((p.1.toNat : Nat) : Int) = p.1 := by omega
              rw [e1] at q1
              have hp0' : 0 ≤ p.1 := by omega
              have hp1' : p.1 < (first.length : Int) := by omega
              have hb5 := lt_of_get h3
              by_cases hxe : x = p.2
              · rw [hxe] at hx
                simp [s0, s1, s5, s6, s7, e2', c6', lr', hjl, g1, g2, prow, hp0, hp1, hp0', hp1', hw5, hx, j3]
                subst hJ
                refine ⟨t.rs.length - (j + 1), by omega, j + 1, by omega, rfl, by simp [s0], by simp [s1], by simp [s5], by simp [s6], by simp, ?_, f5⟩
                rw [take_snoc hp, standsB_append, hst, hx]
                simp; omega
              · simp [s0, s1, s5, s6, s7, e2', c6', lr', hjl, g1, g2, prow, hp0, hp1, hp0', hp1', hw5, hx, hxe]
                exact ⟨(bad (by rw [hx]; simp [hxe])).symm, f1.trans fr5⟩
        · simp [s0, s1, s5, s6, s7, e2', c6', lr', hjl, i3]
          rw [List.take_of_length_le (by omega)] at hst
          exact good hst _ _ fr4 (by simp [s0]) (by simp [s1]) (by simp)
    · simp [r0, r1, r5, l2, hlt]
      rw [List.take_of_length_le (by omega)] at hall
      exact ⟨by simp [chkV]; simpa using hall, f1.trans fr⟩

/-- The example of the document is told. -/
def LivesOk (w0 : World) (hk : Hooks) (f : FuncId) : Prop := ∀ h : Heap, Ans Try.prog w0 hk f [] h (fun r h' => r = .ret (.bool true) ∧ h' = h)

theorem greatB_lim {first : List Int} {txs : List Tx} (h : greatB first txs = false) : Lim first txs := by
  simp [greatB] at h
  exact ⟨by omega, by omega, fun t ht => h.2 t ht⟩

theorem checks_law (hf : hk 3 = none) (h6 : hk 6 = none) (h8 : hk 8 = none) (h9 : hk 9 = none) (hv : LivesOk w0 hk 7) (O : OpHk hk) (R : RefHk hk) {fv tv : Value} {first : List Int} {txs : List Tx} (hi : In w0 fv tv first txs) :
    Ans Try.prog w0 hk 3 [fv, tv] h (fun r h' => r = .ret (.bool true)) := by
  refine Ans.run hf cmp_3 (by simp) ?_
  simp only [code_3]
  simp
  refine (great_spec h6 hi).mono ?_
  rintro r h1 ⟨rfl, f1⟩
  cases hg : greatB first txs with
  | true =>
    simp
    refine (hv h1).mono ?_
    rintro r h2 ⟨rfl, rfl⟩
    simp
  | false =>
    have hl := greatB_lim hg
    simp
    refine (check_spec h8 O hi hl).mono ?_
    rintro r h2 ⟨hc, f2⟩
    rcases hc with ⟨hr, rfl⟩ | ⟨hr, L, hL, rfl⟩
    · simp
      refine (rcheck_spec h9 R hi hl (L := []) (fun hh => by rw [hr] at hh; cases hh)).mono ?_
      rintro r h3 ⟨rfl, f3⟩
      simp [hr]
      refine (hv h3).mono ?_
      rintro r h4 ⟨rfl, rfl⟩
      simp
    · simp
      refine (rcheck_spec h9 R hi hl (fun _ => hL)).mono ?_
      rintro r h3 ⟨rfl, f3⟩
      simp [hr]
      refine (hv h3).mono ?_
      rintro r h4 ⟨rfl, rfl⟩
      simp

theorem sl_nil (h : Heap) : Sl w0 h (.slice none 0 0) 1 (([] : List Int).map irow1) := .inl ⟨rfl, rfl⟩

theorem states_law (hf : hk 4 = none) (h6 : hk 6 = none) (h10 : hk 10 = none) (h11 : hk 11 = none) (h12 : hk 12 = none) (h13 : hk 13 = none) (h14 : hk 14 = none) (hv : LivesOk w0 hk 7) (O : OpHk hk) (R : RefHk hk) {fv tv : Value} {first : List Int} {txs : List Tx} (hi : In w0 fv tv first txs) (s : Int) :
    Ans Try.prog w0 hk 4 [fv, tv, .int .i64 s] h (fun r h' => r = .ret (.bool true)) := by
  refine Ans.run hf cmp_4 (by simp) ?_
  simp only [code_4]
  simp
  refine (great_spec h6 hi).mono ?_
  rintro r h1 ⟨rfl, f1⟩
  cases hg : greatB first txs with
  | true =>
    simp
    refine (hv h1).mono ?_
    rintro r h2 ⟨rfl, rfl⟩
    simp
  | false =>
    have hl := greatB_lim hg
    simp
    refine (state_spec h10 O hi hl s).mono ?_
    rintro r h2 ⟨hc, f2⟩
    rcases hc with ⟨hr, rfl⟩ | ⟨hr, L, b, hL, hb, rfl, hw⟩
    · have hno : rightB first txs = true → OkL txs [] := fun hh => by rw [hr] at hh; cases hh
      simp
      refine (rState_spec h11 R hi hl.f hno s).mono ?_
      rintro r h3 ⟨hc, f3⟩
      rcases hc with ⟨_, rfl⟩ | ⟨hr', _⟩
      case inr => rw [hr] at hr'; cases hr'
      simp
      refine (last_spec h12 O hi hl).mono ?_
      rintro r h4 ⟨hc, f4⟩
      rcases hc with ⟨_, rfl⟩ | ⟨hr', _⟩
      case inr => rw [hr] at hr'; cases hr'
      simp
      refine (rLast_spec h13 R hi hl.f hno).mono ?_
      rintro r h5 ⟨hc, f5⟩
      rcases hc with ⟨_, rfl⟩ | ⟨hr', _⟩
      case inr => rw [hr] at hr'; cases hr'
      simp
      refine (same_spec h14 (sl_nil _) (sl_nil _) (by simp)).mono ?_
      rintro r h6 ⟨rfl, rfl⟩
      simp
      refine (same_spec h14 (sl_nil _) (sl_nil _) (by simp)).mono ?_
      rintro r h6 ⟨rfl, rfl⟩
      simp
      refine (hv _).mono ?_
      rintro r h4 ⟨rfl, rfl⟩
      simp
    · simp
      refine (rState_spec h11 R hi hl.f (fun _ => hL) s).mono ?_
      rintro r h3 ⟨hc, f3⟩
      rcases hc with ⟨hr', _⟩ | ⟨_, b2, hb2, rfl, hw2⟩
      case inl => rw [hr] at hr'; cases hr'
      simp
      refine (last_spec h12 O hi hl).mono ?_
      rintro r h4 ⟨hc, f4⟩
      rcases hc with ⟨hr', _⟩ | ⟨_, L2, b3, hL2, hb3, rfl, hw3⟩
      case inl => rw [hr] at hr'; cases hr'
      simp
      refine (rLast_spec h13 R hi hl.f (fun _ => hL2)).mono ?_
      rintro r h5 ⟨hc, f5⟩
      rcases hc with ⟨hr', _⟩ | ⟨_, b4, hb4, rfl, hw4⟩
      case inl => rw [hr] at hr'; cases hr'
      simp
      have g1 := Sl.ints (w0 := w0) (((f3.trans f4).trans f5).same _ _ (by simp) hw)
      have g2 := Sl.ints (w0 := w0) ((f4.trans f5).same _ _ (by simp) hw2)
      have g3 := Sl.ints (w0 := w0) (f5.same _ _ (by simp) hw3)
      have g4 := Sl.ints (w0 := w0) hw4
      rw [stW_len] at g1 g2 g3 g4
      have hlf := hl.f
      refine (same_spec h14 g1 g2 (by rw [stW_len]; omega)).mono ?_
      rintro r h6 ⟨rfl, rfl⟩
      simp
      refine (same_spec h14 g3 g4 (by rw [stW_len]; omega)).mono ?_
      rintro r h6 ⟨rfl, rfl⟩
      simp
      refine (hv _).mono ?_
      rintro r h4 ⟨rfl, rfl⟩
      simp
end Go.Proofs.Ytlifcjggdandnaa
