/- The reference: the words at a stamp, walked. -/
import Derived.Test.YtlifcjggdandnaaT16
namespace Go.Proofs.Ytlifcjggdandnaa
open Go.Ideal
variable {w0 : World} {hk : Hooks} {h : Heap}

structure StF (fv tv : Value) (s : Int) (al : Bool) (b n : Nat) (a : Int) (ρ : Nat → Value) : Prop where
  r0 : ρ 0 = fv
  r1 : ρ 1 = tv
  r2 : ρ 2 = .int .i64 s
  r3 : ρ 3 = .bool al
  r9 : ρ 9 = .slice (some ⟨b, 0, some 0⟩) n 0
  r10 : ρ 10 = .int .i64 a

/-- The flags of a stamp. -/
theorem st6 (hf : hk 48 = none) {fv tv : Value} {first : List Int} {txs : List Tx} {s a : Int} {al : Bool} {b n : Nat} {W : List Int} {ρ : Nat → Value} {Q : IExit → (Nat → Value) → Heap → Prop} (hi : In w0 fv tv first txs) (hn : W.length = n) (hn2 : 2 < n) (F : StF fv tv s al b n a ρ) (r12 : ρ 12 = .int .i64 0)
    (hw : h[b]? = some (.row (ints W) 3 0)) (hq : ∀ ρ' h', StF fv tv s al b n a ρ' → h'[b]? = some (.row (ints (applyT W ((allP txs).filter (isF a)))) 3 0) → Fr [b] h h' → Q .normal ρ' h') : wp2 Try.prog w0 hk 119 tail_27_6 ρ h Q := by
  simp only [tail_27_6]
  simp
  refine wp_rounds (fun k ρ h' => ∃ (i : Nat), i ≤ txs.length ∧ k = txs.length - i ∧ StF fv tv s al b n a ρ ∧ ρ 12 = .int .i64 (i : Nat) ∧ h'[b]? = some (.row (ints (applyT W ((allP (txs.take i)).filter (isF a)))) 3 0) ∧ Fr [b] h h') ?_ (k := txs.length)
    ⟨0, by simp, by simp, F, by simp [r12], by simpa [allP, applyT] using hw, Fr.refl _ _⟩
  rintro I hI k ρ h' ⟨i, hi1, rfl, F', r12, hw', fr⟩
  obtain ⟨r0, r1, r2, r3, r9, r10⟩ := F'
  have l2 := (hi.t h').len
  by_cases hlt : i < txs.length
  · have ht := List.getElem?_eq_getElem hlt
    generalize txs[i] = t at ht
    have htm := List.mem_of_getElem? ht
    have tx := hi.ok t htm
    obtain ⟨b1, b2, b3, b4⟩ := hi.lt htm
    obtain ⟨e2, e8, c0, c2, c3, c4, c5, c6, c7⟩ := hi.at ht h'
    have i3 : IntKind.i64.wrap ((i : Int) + 1) = (i : Int) + 1 := IntWalk.i64_in _ ⟨by omega, by omega⟩
    simp [tail_27_2, tail_27_5, tail_27_3, tail_27_4, r0, r1, r2, r3, r9, r10, r12, l2, hlt, e2, e8]
    refine (raised_spec hf tx).mono ?_
    rintro r h2 ⟨rfl, f2⟩
    obtain ⟨e2', e8', c0', c2', c3', c4', c5', c6', c7'⟩ := hi.at ht h2
    have hw2 := f2.same b _ (by simp) hw'
    have fr2 := fr.trans (f2.mono (S' := [b]) (by simp))
    have hap : allP (txs.take (i + 1)) = allP (txs.take i) ++ entP t := by rw [take_snoc ht]; simp [allP]
    have nG : (if storesB t then [((t.stamp, false, t.ws) : PT)] else []).filter (isF a) = [] := by
      cases storesB t <;> simp [isF]
    have no : (raisedB t && decide (t.seen = a)) = false → (allP (txs.take (i + 1))).filter (isF a) = (allP (txs.take i)).filter (isF a) := by
      intro hb
      rw [hap, List.filter_append, entP, List.filter_append, nG]
      cases hr : raisedB t with
      | false => simp
      | true => rw [hr] at hb; simp at hb; simp [isF, hb]
    cases hr : raisedB t with
    | false =>
      simp [tail_27_3, tail_27_4, r0, r1, r2, r3, r9, r10, r12, i3]
      subst hI
      exact ⟨txs.length - (i + 1), by omega, i + 1, by omega, rfl, ⟨by simp [r0], by simp [r1], by simp [r2], by simp [r3], by simp [r9], by simp [r10]⟩, by simp, by rw [no (by simp [hr])]; exact hw2, fr2⟩
    | true =>
      by_cases hs : t.seen = a
      · have hl : (applyT W ((allP (txs.take i)).filter (isF a))).length = n := by rw [applyT_len, hn]
        have hn2' : (2 : Int) < n := by omega
        simp [tail_27_3, tail_27_4, r0, r1, r2, r3, r9, r10, r12, i3, e2', c2', hs, c0', hn2', hw2, hl, hn2]
        subst hI
        refine ⟨txs.length - (i + 1), by omega, i + 1, by omega, rfl, ⟨by simp [r0], by simp [r1], by simp [r2], by simp [r3], by simp [r9], by simp [r10]⟩, by simp, ?_, fr2.trans (Fr.set _ _ _ (by simp))⟩
        rw [List.getElem?_set_self (lt_of_get hw2), hap, List.filter_append, entP, List.filter_append, nG, applyT_append]
        simp [hr, isF, hs, applyT, applyPs]
      · simp [tail_27_3, tail_27_4, r0, r1, r2, r3, r9, r10, r12, i3, e2', c2', hs]
        subst hI
        exact ⟨txs.length - (i + 1), by omega, i + 1, by omega, rfl, ⟨by simp [r0], by simp [r1], by simp [r2], by simp [r3], by simp [r9], by simp [r10]⟩, by simp, by rw [no (by simp [hs])]; exact hw2, fr2⟩
  · simp [tail_27_2, r0, r1, r2, r3, r9, r10, r12, l2, hlt]
    rw [List.take_of_length_le (by omega)] at hw'
    exact hq _ _ ⟨by simp [r0], by simp [r1], by simp [r2], by simp [r3], by simp [r9], by simp [r10]⟩ hw' fr

/-- What one try wrote, at a stamp. -/
theorem st11 (hf : hk 46 = none) {fv tv : Value} {first : List Int} {txs : List Tx} {s a : Int} {al : Bool} {b n i : Nat} {t : Tx} {W : List Int} {ρ : Nat → Value} {Q : IExit → (Nat → Value) → Heap → Prop} (hi : In w0 fv tv first txs) (ht : txs[i]? = some t) (hn : W.length = n) (hin : storesB t = true → ∀ p ∈ t.ws, 0 ≤ p.1 ∧ p.1 < (n : Int)) (F : StF fv tv s al b n a ρ) (r13 : ρ 13 = .int .i64 (i : Nat)) (r14 : ρ 14 = .int .i64 0)
    (hw : h[b]? = some (.row (ints W) 3 0)) (hq : ∀ ρ' h', StF fv tv s al b n a ρ' → ρ' 13 = .int .i64 (i : Nat) → h'[b]? = some (.row (ints (if storesB t && decide (t.stamp = a) then applyPs W t.ws else W)) 3 0) → Fr [b] h h' → Q .normal ρ' h') : wp2 Try.prog w0 hk 119 tail_27_11 ρ h Q := by
  simp only [tail_27_11]
  simp
  have tx := hi.ok t (List.mem_of_getElem? ht)
  obtain ⟨b1, b2, b3, b4⟩ := hi.lt (List.mem_of_getElem? ht)
  refine wp_rounds (fun k ρ h' => ∃ (j : Nat), j ≤ t.ws.length ∧ k = t.ws.length - j ∧ StF fv tv s al b n a ρ ∧ ρ 13 = .int .i64 (i : Nat) ∧ ρ 14 = .int .i64 (j : Nat) ∧ (0 < j → (storesB t && decide (t.stamp = a)) = true) ∧ h'[b]? = some (.row (ints (applyPs W (t.ws.take j))) 3 0) ∧ Fr [b] h h') ?_ (k := t.ws.length)
    ⟨0, by simp, by simp, F, r13, by simp [r14], by simp, by simpa [applyPs] using hw, Fr.refl _ _⟩
  rintro I hI k ρ h' ⟨j, hj1, rfl, F', r13, r14, hpos, hw', fr⟩
  obtain ⟨r0, r1, r2, r3, r9, r10⟩ := F'
  obtain ⟨e2, e8, c0, c2, c3, c4, c5, c6, c7⟩ := hi.at ht h'
  have lw := (tx.w h').len
  by_cases hlt : j < t.ws.length
  · have hp := List.getElem?_eq_getElem hlt
    generalize t.ws[j] = p at hp
    have i3 : IntKind.i64.wrap ((j : Int) + 1) = (j : Int) + 1 := IntWalk.i64_in _ ⟨by omega, by omega⟩
    simp [r0, r1, r2, r3, r9, r10, r13, r14, e2, e8, c7, lw, hlt]
    refine (rstores_spec hf tx).mono ?_
    rintro r h2 ⟨rfl, f2⟩
    obtain ⟨e2', e8', c0', c2', c3', c4', c5', c6', c7'⟩ := hi.at ht h2
    have hw2 := f2.same b _ (by simp) hw'
    have fr2 := fr.trans (f2.mono (S' := [b]) (by simp))
    have stopped : (storesB t && decide (t.stamp = a)) = false → j = 0 ∧ (if storesB t && decide (t.stamp = a) then applyPs W t.ws else W) = applyPs W (t.ws.take j) := by
      intro hb
      have : j = 0 := by
        cases j with
        | zero => rfl
        | succ j => have := hpos (by omega); rw [hb] at this; cases this
      subst this
      exact ⟨rfl, by rw [hb]; rfl⟩
    cases hst : storesB t with
    | false =>
      simp [tail_27_8, r0, r1, r2, r3, r9, r10, r13, r14]
      exact hq _ _ ⟨by simp [r0], by simp [r1], by simp [r2], by simp [r3], by simp [r9], by simp [r10]⟩ (by simp [r13]) (by rw [(stopped (by simp [hst])).2]; exact hw2) fr2
    | true =>
      by_cases hs : t.stamp = a
      · obtain ⟨g1, g2, g3, g4⟩ := pair_at (tx.w h2) hp
        obtain ⟨hp0, hp1⟩ := hin hst p (List.mem_of_getElem? hp)
        have hl : (applyPs W (t.ws.take j)).length = n := by rw [applyPs_len, hn]
        have hpn : p.1.toNat < n := by omega
        simp [tail_27_8, tail_27_10, tail_27_9, r0, r1, r2, r3, r9, r10, r13, r14, e2', c3', c7', hs, g1, g3, g4, hp0, hp1, hw2, hl, hpn, i3]
        subst hI
        refine ⟨t.ws.length - (j + 1), by omega, j + 1, by omega, rfl, ⟨by simp [r0], by simp [r1], by simp [r2], by simp [r3], by simp [r9], by simp [r10]⟩, by simp [r13], by simp, fun _ => by simp [hst, hs], ?_, fr2.trans (Fr.set _ _ _ (by simp))⟩
        rw [List.getElem?_set_self (lt_of_get hw2), take_snoc hp]
        simp [applyPs]
      · simp [tail_27_8, r0, r1, r2, r3, r9, r10, r13, r14, e2', c3', hs]
        exact hq _ _ ⟨by simp [r0], by simp [r1], by simp [r2], by simp [r3], by simp [r9], by simp [r10]⟩ (by simp [r13]) (by rw [(stopped (by simp [hs])).2]; exact hw2) fr2
  · simp [tail_27_8, r0, r1, r2, r3, r9, r10, r13, r14, e2, e8, c7, lw, hlt]
    rw [List.take_of_length_le (by omega)] at hw'
    refine hq _ _ ⟨by simp [r0], by simp [r1], by simp [r2], by simp [r3], by simp [r9], by simp [r10]⟩ (by simp [r13]) ?_ fr
    by_cases hj : 0 < j
    · rw [hpos hj]; exact hw'
    · have : t.ws = [] := List.length_eq_zero_iff.1 (by omega)
      rw [this] at hw' ⊢
      simpa [applyPs] using hw'

/-- What all tries wrote, at a stamp. -/
theorem st14 (hf : hk 46 = none) {fv tv : Value} {first : List Int} {txs : List Tx} {s a : Int} {al : Bool} {b n : Nat} {W : List Int} {ρ : Nat → Value} {Q : IExit → (Nat → Value) → Heap → Prop} (hi : In w0 fv tv first txs) (hn : W.length = n) (hin : ∀ t ∈ txs, storesB t = true → ∀ p ∈ t.ws, 0 ≤ p.1 ∧ p.1 < (n : Int)) (F : StF fv tv s al b n a ρ) (r13 : ρ 13 = .int .i64 0)
    (hw : h[b]? = some (.row (ints W) 3 0)) (hq : ∀ ρ' h', StF fv tv s al b n a ρ' → h'[b]? = some (.row (ints (applyT W ((allP txs).filter (isG a)))) 3 0) → Fr [b] h h' → Q .normal ρ' h') : wp2 Try.prog w0 hk 119 tail_27_14 ρ h Q := by
  simp only [tail_27_14]
  simp
  refine wp_rounds (fun k ρ h' => ∃ (i : Nat), i ≤ txs.length ∧ k = txs.length - i ∧ StF fv tv s al b n a ρ ∧ ρ 13 = .int .i64 (i : Nat) ∧ h'[b]? = some (.row (ints (applyT W ((allP (txs.take i)).filter (isG a)))) 3 0) ∧ Fr [b] h h') ?_ (k := txs.length)
    ⟨0, by simp, by simp, F, by simp [r13], by simpa [allP, applyT] using hw, Fr.refl _ _⟩
  rintro I hI k ρ h' ⟨i, hi1, rfl, F', r13, hw', fr⟩
  obtain ⟨r0, r1, r2, r3, r9, r10⟩ := F'
  have l2 := (hi.t h').len
  by_cases hlt : i < txs.length
  · have ht := List.getElem?_eq_getElem hlt
    generalize txs[i] = t at ht
    have htm := List.mem_of_getElem? ht
    obtain ⟨b1, b2, b3, b4⟩ := hi.lt htm
    have i3 : IntKind.i64.wrap ((i : Int) + 1) = (i : Int) + 1 := IntWalk.i64_in _ ⟨by omega, by omega⟩
    simp [tail_27_7, tail_27_13, r0, r1, r2, r3, r9, r10, r13, l2, hlt]
    refine st11 (fv := fv) (tv := tv) (s := s) (al := al) (a := a) (b := b) (n := n) hf hi ht (W := applyT W ((allP (txs.take i)).filter (isG a))) (by rw [applyT_len, hn]) (hin t htm) ⟨by simp [r0], by simp [r1], by simp [r2], by simp [r3], by simp [r9], by simp [r10]⟩ (by simp [r13]) (by simp) hw' fun ρ' h2 F2 s13 hw2 f2 => ?_
    obtain ⟨s0, s1, s2, s3, s9, s10⟩ := F2
    simp [tail_27_12, s13, i3]
    subst hI
    refine ⟨txs.length - (i + 1), by omega, i + 1, by omega, rfl, ⟨by simp [s0], by simp [s1], by simp [s2], by simp [s3], by simp [s9], by simp [s10]⟩, by simp, ?_, fr.trans f2⟩
    rw [hw2]
    have hap : allP (txs.take (i + 1)) = allP (txs.take i) ++ entP t := by rw [take_snoc ht]; simp [allP]
    have nF : (if raisedB t then [((t.seen, true, [(2, IntKind.i64.wrap (t.worker + 1))]) : PT)] else []).filter (isG a) = [] := by
      cases raisedB t <;> simp [isG]
    rw [hap, List.filter_append, entP, List.filter_append, nF, List.nil_append, applyT_append]
    cases hst : storesB t with
    | false => simp [applyT]
    | true =>
      by_cases hs : t.stamp = a <;> simp [isG, hs, applyT]
  · simp [tail_27_7, r0, r1, r2, r3, r9, r10, r13, l2, hlt]
    rw [List.take_of_length_le (by omega)] at hw'
    exact hq _ _ ⟨by simp [r0], by simp [r1], by simp [r2], by simp [r3], by simp [r9], by simp [r10]⟩ hw' fr

structure RefHk (hk : Hooks) : Prop where
  h26 : hk 26 = none
  h27 : hk 27 = none
  h46 : hk 46 = none
  h47 : hk 47 = none
  h48 : hk 48 = none

def cOf (al : Bool) (s : Int) (x : Int) : Bool := al || decide (x ≤ s)
theorem cOf_down (al : Bool) (s : Int) : ∀ x y : Int, x ≤ y → cOf al s y = true → cOf al s x = true := by
  intro x y h1 h2
  cases al with
  | true => rfl
  | false => simp [cOf] at *; omega

theorem rstate_spec (R : RefHk hk) {fv tv : Value} {first : List Int} {txs : List Tx} (hi : In w0 fv tv first txs) (hr : rightB first txs = true) (hl : first.length ≤ 300) {L : List En} (hL : OkL txs L) (s : Int) (al : Bool) :
    Ans Try.prog w0 hk 27 [fv, tv, .int .i64 s, .bool al] h (fun r h' => ∃ b, h.length ≤ b ∧ r = .ret (.slice (some ⟨b, 0, some 0⟩) first.length 0) ∧ h'[b]? = some (.row (ints (stW first L (cOf al s))) 3 0) ∧ Fr [] h h') := by
  refine Ans.run R.h27 cmp_27 (by simp) ?_
  simp only [code_27, tail_27_21, tail_27_20, tail_27_19]
  have hin : ∀ t ∈ txs, storesB t = true → ∀ p ∈ t.ws, 0 ≤ p.1 ∧ p.1 < (first.length : Int) := fun t ht hst p hp =>
    allP_ok hr (e := (t.stamp, false, t.ws)) (List.mem_flatMap.2 ⟨t, ht, by simp [entP, hst]⟩) p hp
  have hn2 : 2 < first.length := by simp [rightB] at hr; omega
  have hne : first ≠ [] := by intro hh; subst hh; simp at hn2
  have hs := hi.f h
  obtain ⟨a, c, rfl⟩ := hs.is (by simpa using hne)
  have h0 : first.length ≠ 0 := by omega
  have hs' : Sl w0 (h ++ [.row [] 3 0]) (.slice (some a) (first.map irow1).length c) 1 (first.map irow1) := hi.f _
  have hall := hs'.all.resolve_left (by simpa using hne)
  rw [flatten_irow1] at hall
  simp [bAddr] at hall
  have hlf := List.all_eq_true.1 (ints_leaf first)
  simp
  refine app_22 _ _ _ _ ?_
  have hap : appV w0 (h ++ [.row [] 3 0]) 3 1 8 (.slice (some ⟨h.length, 0, some 0⟩) 0 2) (.slice (some a) first.length c) = some (.val (.slice (some ⟨h.length + 1, 0, some 0⟩) first.length 0) (h ++ [.row [] 3 0, .row (ints first) 3 0])) := by
    simp [appV, ilen, h0, firstN, hall]
    exact ⟨hlf, by omega, by omega⟩
  refine ⟨_, hap, ?_⟩
  simp
  refine (next_spec R.h47 R.h46 R.h48 hi 0 false).mono ?_
  rintro r h1 ⟨⟨x, rfl, hx⟩, f1⟩
  simp
  have hb : h1[h.length + 1]? = some (.row (ints first) 3 0) := f1.same _ _ (by simp) (by simp)
  have fr1 : Fr [] h h1 := (Fr.append _ _ _).trans f1
  generalize hB : h.length + 1 = b at *
  have hbl : h.length ≤ b := by omega
  refine wp_rounds (fun k ρ h' => ∃ (at' : Int) (has : Bool) (W : List Int), k = left L at' has ∧ StF (.slice (some a) (first.map irow1).length c) tv s al b first.length at' ρ ∧ ρ 11 = .bool has ∧ W.length = first.length ∧ RSt first L (cOf al s) at' has W ∧ h'[b]? = some (.row (ints W) 3 0) ∧ Fr [b] h1 h') ?_ (k := left L x.1 x.2)
    ⟨x.1, x.2, first, rfl, ⟨by simp, by simp, by simp, by simp, by simp, by simp⟩, by simp, rfl, RSt.start hL hx, hb, Fr.refl _ _⟩
  rintro I hI k ρ h' ⟨at', has, W, rfl, F, r11, hWn, hst, hw, fr⟩
  obtain ⟨r0, r1, r2, r3, r9, r10⟩ := F
  have fr0 : Fr [] h h' := fr1.trans' fr (fun y hy => .inr (by simp at hy; omega))
  have endd : (has = false ∨ cOf al s at' = false) → ∃ b', h.length ≤ b' ∧ IRet.ret (.slice (some ⟨b, 0, some 0⟩) first.length 0) = .ret (.slice (some ⟨b', 0, some 0⟩) first.length 0) ∧ h'[b']? = some (.row (ints (stW first L (cOf al s))) 3 0) ∧ Fr [] h h' := fun hno =>
    ⟨b, hbl, rfl, by rw [← hst.fin (cOf_down al s) hno]; exact hw, fr0⟩
  have body : has = true → cOf al s at' = true → ∀ ρ' : Nat → Value, ρ' 0 = .slice (some a) (first.map irow1).length c → ρ' 1 = tv → ρ' 2 = .int .i64 s → ρ' 3 = .bool al → ρ' 9 = .slice (some ⟨b, 0, some 0⟩) first.length 0 → ρ' 10 = .int .i64 at' →
      ∀ Q, wp2 Try.prog w0 hk 119 tail_27_17 ρ' h' (thenQ (Again I (left L at' has)) Q) := by
    intro hh hc ρ' s0 s1 s2 s3 s9 s10 Q
    subst hh
    simp only [tail_27_17, tail_27_16]
    simp
    refine st6 (fv := .slice (some a) (first.map irow1).length c) (tv := tv) (s := s) (al := al) (a := at') (b := b) (n := first.length) R.h48 hi hWn hn2 ⟨by simp [s0], by simp [s1], by simp [s2], by simp [s3], by simp [s9], by simp [s10]⟩ (by simp) hw fun ρ2 h2 F2 hw2 f2 => ?_
    obtain ⟨t0, t1, t2, t3, t9, t10⟩ := F2
    simp
    refine st14 (fv := .slice (some a) (first.map irow1).length c) (tv := tv) (s := s) (al := al) (a := at') (b := b) (n := first.length) R.h46 hi (by rw [applyT_len, hWn]) hin ⟨by simp [t0], by simp [t1], by simp [t2], by simp [t3], by simp [t9], by simp [t10]⟩ (by simp) hw2 fun ρ3 h3 F3 hw3 f3 => ?_
    obtain ⟨u0, u1, u2, u3, u9, u10⟩ := F3
    simp [tail_27_15, u0, u1, u2, u3, u9, u10]
    refine (next_spec R.h47 R.h46 R.h48 hi at' true).mono ?_
    rintro r h4 ⟨⟨y, rfl, hy⟩, f4⟩
    simp
    subst hI
    exact ⟨left L y.1 y.2, left_next hL hst hy, y.1, y.2, _, rfl, ⟨by simp [u0], by simp [u1], by simp [u2], by simp [u3], by simp [u9], by simp⟩, by simp, by rw [applyT_len, applyT_len, hWn], hst.next hL (cOf_down al s) hc hy, f4.same _ _ (by simp) hw3, ((fr.trans f2).trans f3).trans (f4.mono (by simp))⟩
  cases hh : has with
  | false =>
    simp [tail_27_1, tail_27_18, r0, r1, r2, r3, r9, r10, r11, hh]
    simpa using endd (.inl hh)
  | true =>
    cases ha : al with
    | true =>
      simp [tail_27_1, r0, r1, r2, r3, r9, r10, r11, hh, ha]
      have := body hh (by simp [cOf, ha])
      rw [hh] at this
      exact this _ (by simp [r0]) (by simp [r1]) (by simp [r2]) (by simp [r3]) (by simp [r9]) (by simp [r10]) _
    | false =>
      by_cases hle : at' ≤ s
      · simp [tail_27_1, r0, r1, r2, r3, r9, r10, r11, hh, ha, hle]
        have := body hh (by simp [cOf, hle])
        rw [hh] at this
        exact this _ (by simp [r0]) (by simp [r1]) (by simp [r2]) (by simp [r3]) (by simp [r9]) (by simp [r10]) _
      · simp [tail_27_1, tail_27_18, r0, r1, r2, r3, r9, r10, r11, hh, ha, hle]
        have := endd (.inr (by simp [cOf, ha]; omega))
        simpa [ha] using this
end Go.Proofs.Ytlifcjggdandnaa
