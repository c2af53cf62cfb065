/- What was stored, by rising stamps. -/
import Derived.Test.YtlifcjggdandnaaT13
namespace Go.Proofs.Ytlifcjggdandnaa
open Go.Ideal
variable {w0 : World} {hk : Hooks} {h : Heap}

def En.pl (e : En) : Int × Bool × List (Int × Int) := (e.stamp, e.flag, e.ps)
def entP (t : Tx) : List (Int × Bool × List (Int × Int)) := (if raisedB t then [(t.seen, true, [(2, IntKind.i64.wrap (t.worker + 1))])] else []) ++ (if storesB t then [(t.stamp, false, t.ws)] else [])
def allP (txs : List Tx) : List (Int × Bool × List (Int × Int)) := txs.flatMap entP

/-- Entries behind a slice that grows. -/
def LstAt (w0 : World) (n0 : Nat) (H : Heap) (v : Value) (L : List En) : Prop :=
  (v = .slice none 0 0 ∧ L = []) ∨ ∃ b g, v = dv b g L.length ∧ n0 ≤ b ∧ At H b g L ∧ ∀ e ∈ L, ∀ H2, Fr [b] H H2 → Sl w0 H2 e.pv 2 (e.ps.map prow)

theorem LstAt.fr {n0 : Nat} {H H' : Heap} {v : Value} {L : List En} (a : LstAt w0 n0 H v L) (f : Fr [] H H') : LstAt w0 n0 H' v L := by
  rcases a with a | ⟨b, g, h1, h2, h3, h4⟩
  · exact .inl a
  · exact .inr ⟨b, g, h1, h2, h3.fr f, fun e he H2 f2 => h4 e he H2 ((f.mono (by simp)).trans f2)⟩

theorem fl_snoc (L : List En) (e : En) : fl (L ++ [e]) = fl L ++ e.cells := by simp [fl]
theorem fl_len (L : List En) : (fl L).length = L.length * 3 := flat_len L

theorem app_en {n0 bytes : Nat} {H : Heap} {v : Value} {L : List En} (a : LstAt w0 n0 H v L) (hn : n0 ≤ H.length) {e : En} (le : leaf e.pv = true) {i j : Nat} (hi : H[i]? = some (.row e.cells 74 0)) (hb : ∀ b g, v = dv b g L.length → b ≠ i ∧ b ≠ j) (hj : j < H.length)
    (hsl : ∀ b H2, b ≠ j → Fr [b] H H2 → Sl w0 H2 e.pv 2 (e.ps.map prow)) (hL : L.length ≤ 1000) (hby : bytes ≤ 1000) :
    ∃ v' H', appV w0 H 74 3 bytes v (.slice (some ⟨i, 0, some 0⟩) 1 3) = some (.val v' H') ∧ LstAt w0 n0 H' v' (L ++ [e]) ∧ (∃ b, n0 ≤ b ∧ (b = H.length ∨ ∃ g, v = dv b g L.length) ∧ Fr [b] H H') := by
  have hr : rdN w0 H ⟨i, 0, some 0⟩ 3 = some e.cells := by simp [hi, En.cells]
  have hlf : e.cells.all leaf = true := by simp [En.cells, le]
  have hlf' := List.all_eq_true.1 hlf
  rcases a with ⟨rfl, rfl⟩ | ⟨b, g, rfl, h2, h3, h4⟩
  · have hap : appV w0 H 74 3 bytes (.slice none 0 0) (.slice (some ⟨i, 0, some 0⟩) 1 3) = some (.val (dv H.length 0 1) (H ++ [.row e.cells 74 0])) := by
      simp only [appV, ilen, Option.bind_some, firstN, Nat.one_mul, hr, hlf]
      simp [dv]
      exact ⟨hlf', by omega⟩
    refine ⟨_, _, hap, .inr ⟨H.length, 0, by simp, hn, ⟨by simp [fl], by simpa using le⟩, fun e' he' H2 f2 => ?_⟩, H.length, hn, .inl rfl, Fr.append _ _ _⟩
    simp at he'
    subst he'
    exact hsl H.length H2 (by omega) ((Fr.append _ _ _).trans f2)
  · have hrow := h3.row
    have hfl := fl_len L
    have hap : appV w0 H 74 3 bytes (dv b g L.length) (.slice (some ⟨i, 0, some 0⟩) 1 3) = some (.val (dv b (g + 1) (L ++ [e]).length) (H.set b (.row (fl (L ++ [e])) 74 (g + 1)))) := by
      simp only [appV, ilen, Option.bind_some, firstN, Nat.one_mul, hr, hlf, dv, hrow, hfl, fl_snoc]
      have h5 : ¬ ((L.length + 1) * bytes > 35184372088832 ∨ L.length + 1 > 35184372088832) := by
        have := Nat.mul_le_mul (show L.length + 1 ≤ 1001 by omega) hby
        omega
      simp [h5]
      exact hlf'
    refine ⟨_, _, hap, .inr ⟨b, g + 1, rfl, h2, ⟨by rw [List.getElem?_set_self (lt_of_get hrow)], fun e' he' => ?_⟩, fun e' he' H2 f2 => ?_⟩, b, h2, .inr ⟨g, rfl⟩, Fr.set _ _ _ (by simp)⟩
    · rcases List.mem_append.1 he' with he' | he'
      · exact h3.lf e' he'
      · simp at he'; subst he'; exact le
    · have f3 : Fr [b] H H2 := (Fr.set (S := [b]) H b _ (by simp)).trans f2
      rcases List.mem_append.1 he' with he' | he'
      · exact h4 e' he' H2 f3
      · simp at he'; subst he'
        exact hsl b H2 (hb b g rfl).2 f3

theorem sort_nil (hf : hk 42 = none) (H : SortHk hk) : Ans Try.prog w0 hk 42 [.slice none 0 0, cmpV] h (fun r h' => r = .ret (.tuple #[]) ∧ h' = h) := by
  have ins : Ans Try.prog w0 hk 69 [.slice none 0 0, .int .i64 0, .int .i64 0, cmpV] h (fun r h' => r = .ret (.tuple #[]) ∧ h' = h) := by
    refine Ans.run H.h69 cmp_69 (by simp) ?_
    simp only [code_69]
    have : IntKind.i64.wrap (0 + 1) = 1 := rfl
    simp
    refine wp_rounds (fun k ρ h' => ρ 8 = .int .i64 1 ∧ ρ 2 = .int .i64 0 ∧ h' = h) ?_ (k := 0) ⟨by simp; rfl, by simp, rfl⟩
    rintro I hI k ρ h' ⟨r8, r2, rfl⟩
    simp [r8, r2]
  have stab : Ans Try.prog w0 hk 61 [.slice none 0 0, .int .i64 0, cmpV] h (fun r h' => r = .ret (.tuple #[]) ∧ h' = h) := by
    refine Ans.run H.h61 cmp_61 (by simp) ?_
    simp only [code_61]
    simp
    refine wp_rounds (fun k ρ h' => ρ 0 = .slice none 0 0 ∧ ρ 1 = .int .i64 0 ∧ ρ 2 = cmpV ∧ ρ 6 = .int .i64 20 ∧ ρ 7 = .int .i64 0 ∧ ρ 8 = .int .i64 20 ∧ h' = h) ?_ (k := 0) ⟨by simp, by simp, by simp, by simp, by simp, by simp, rfl⟩
    rintro I hI k ρ h' ⟨r0, r1, r2, r6, r7, r8, rfl⟩
    simp [r0, r1, r2, r6, r7, r8]
    refine ins.mono ?_
    rintro r h2 ⟨rfl, rfl⟩
    simp
    refine wp_rounds (fun k ρ h' => ρ 6 = .int .i64 20 ∧ ρ 1 = .int .i64 0 ∧ h' = h2) ?_ (k := 0) ⟨by simp [r6], by simp [r1], rfl⟩
    rintro I hI k ρ h' ⟨r6, r1, rfl⟩
    simp [r6, r1]
  refine Ans.run hf cmp_42 (by simp) ?_
  simp only [code_42]
  simp
  refine stab.mono ?_
  rintro r h' ⟨rfl, rfl⟩
  simp

theorem vcells_leaf {v : Value} (hv : leaf v = true) : vcells v = [v] := by cases v <;> first | rfl | simp [leaf] at hv

/-- What is told of all that was stored. -/
structure AllOk (w0 : World) (n0 : Nat) (txs : List Tx) (h' : Heap) (lv : Value) (L : List En) : Prop where
  at' : LstAt w0 n0 h' lv L
  srt : Sorted L
  flt : ∃ L0, Filt L0 L ∧ L0.map En.pl = allP txs

set_option maxHeartbeats 4000000 in
theorem all_spec (hf : hk 22 = none) (hf2 : hk 41 = none) (hf3 : hk 42 = none) (H : SortHk hk) {fv tv : Value} {first : List Int} {txs : List Tx} (hi : In w0 fv tv first txs) (hn : txs.length ≤ 40) :
    Ans Try.prog w0 hk 22 [tv] h (fun r h' => (∃ lv L, r = .ret lv ∧ AllOk w0 h.length txs h' lv L) ∧ Fr [] h h') := by
  refine Ans.run hf cmp_22 (by simp) ?_
  simp only [code_22]
  have l2 := (hi.t h).len
  simp [l2]
  refine wp_rounds (fun k ρ h' => ∃ (i : Nat) (v : Value) (L : List En), i ≤ txs.length ∧ k = txs.length - i ∧ ρ 3 = v ∧ ρ 6 = tv ∧ ρ 7 = .int .i64 (txs.length : Nat) ∧ ρ 8 = .int .i64 (i : Nat) ∧ LstAt w0 h.length h' v L ∧ L.length ≤ 2 * i ∧ L.map En.pl = allP (txs.take i) ∧ Fr [] h h') ?_ (k := txs.length)
    ⟨0, .slice none 0 0, [], by simp, by simp, by simp, by simp, by simp, by simp, .inl ⟨rfl, rfl⟩, by simp, by simp [allP], Fr.refl _ _⟩
  rintro I hI k ρ h' ⟨i, v, L, hi1, rfl, r3, r6, r7, r8, hL, hLl, hLp, fr⟩
  by_cases hlt : i < txs.length
  · have ht := List.getElem?_eq_getElem hlt
    generalize txs[i] = t at ht
    have htm := List.mem_of_getElem? ht
    have tx := hi.ok t htm
    obtain ⟨b1, b2, b3, b4⟩ := hi.lt htm
    obtain ⟨e2, e8, c0, c2, c3, c4, c5, c6, c7⟩ := hi.at ht h'
    have lv := tx.lr
    have lw := tx.lw
    have hvc := vcells_leaf lw
    have i3 : IntKind.i64.wrap ((i : Int) + 1) = (i : Int) + 1 := IntWalk.i64_in _ ⟨by omega, by omega⟩
    have hlp := fr.len
    have nxt : ∀ (ρ : Nat → Value) (h4 : Heap) (v' : Value) (L' : List En), LstAt w0 h.length h4 v' L' → L'.length ≤ 2 * i + 2 → L'.map En.pl = allP (txs.take i) ++ entP t → Fr [] h h4 → ρ 3 = v' → ρ 6 = tv → ρ 7 = .int .i64 (txs.length : Nat) → ρ 8 = .int .i64 ((i : Int) + 1) → Again I (txs.length - i) ρ h4 := by
      intro ρ h4 v' L' g1 g2 g3 g4 t3 t6 t7 t8
      subst hI
      exact ⟨txs.length - (i + 1), by omega, i + 1, v', L', by omega, rfl, t3, t6, t7, by rw [t8]; simp, g1, by omega, by rw [take_snoc ht, g3]; simp [allP], g4⟩
    -- behind the flag's entry, if there is one
    have blk : ∀ {v' : Value} {L' : List En} {H1 : Heap}, LstAt w0 h.length H1 v' L' → (∀ b g, v' = dv b g L'.length → b < H1.length) := by
      intro v' L' H1 hL b g hv
      rcases hL with ⟨h1, _⟩ | ⟨b', g', h1, h2, h3, h4⟩
      · rw [h1] at hv; simp [dv] at hv
      · rw [hv] at h1
        have : b = b' := by simpa [dv] using congrArg (fun x => match x with | Value.slice (some a) _ _ => a.block | _ => 0) h1
        subst this
        exact lt_of_get h3.row
    have hcase : (∃ fa, t.fall = fa ∧ raisedB t = false ∧ (fa = false ∨ (fa = true ∧ ¬ 0 < t.seen))) ∨ (t.fall = true ∧ 0 < t.seen ∧ raisedB t = true) := by
      cases hfa : t.fall with
      | false => exact .inl ⟨false, rfl, by simp [raisedB, hfa], .inl rfl⟩
      | true =>
        by_cases hse : 0 < t.seen
        · exact .inr ⟨rfl, hse, by simp [raisedB, hfa, hse]⟩
        · exact .inl ⟨true, rfl, by simp [raisedB, hfa, hse], .inr ⟨rfl, hse⟩⟩
    -- the entry of what it wrote, if it is sure
    have fin : ∀ (fa : Bool) (H1 : Heap) (v' : Value) (L' : List En), t.fall = fa → LstAt w0 h.length H1 v' L' → L'.length ≤ 2 * i + 1 → L'.map En.pl = allP (txs.take i) ++ (if raisedB t then [(t.seen, true, [(2, IntKind.i64.wrap (t.worker + 1))])] else []) → Fr [] h H1 →
        storesB t = true → ∃ v2 H2, appV w0 (H1 ++ [.row [.int .i64 t.stamp, .bool false, t.wv] 74 0]) 74 3 40 v' (.slice (some ⟨H1.length, 0, some 0⟩) 1 3) = some (.val v2 H2) ∧ Fr [] h H2 ∧ ∀ (ρ : Nat → Value), ρ 3 = v2 → ρ 6 = tv → ρ 7 = .int .i64 (txs.length : Nat) → ρ 8 = .int .i64 ((i : Int) + 1) → Again I (txs.length - i) ρ H2 := by
      intro fa H1 v' L' _ g1 g2 g3 g4 hst
      have gl := g4.len
      obtain ⟨v2, H2, hap, hl2, b, hb, hbb, fb⟩ := app_en (e := ⟨t.stamp, false, t.wv, t.ws⟩) (H := H1 ++ [.row [.int .i64 t.stamp, .bool false, t.wv] 74 0]) (bytes := 40) (i := H1.length) (j := H1.length) (g1.fr (Fr.append _ _ _)) (by simp; omega) lw (by simp [En.cells])
        (fun b g hv => by have := blk g1 b g hv; exact ⟨by omega, by omega⟩) (by simp) (fun b H2 _ _ => tx.w H2) (by omega) (by omega)
      have ff : Fr [] h H2 := (g4.trans (Fr.append _ _ _)).trans' fb (fun x hx => .inr (by simp at hx; omega))
      refine ⟨v2, H2, hap, ff, fun ρ t3 t6 t7 t8 => nxt ρ H2 v2 _ hl2 (by simp; omega) ?_ ff t3 t6 t7 t8⟩
      simp [g3, entP, hst, En.pl]
    have fin0 : ∀ (H1 : Heap) (v' : Value) (L' : List En), LstAt w0 h.length H1 v' L' → L'.length ≤ 2 * i + 1 → L'.map En.pl = allP (txs.take i) ++ (if raisedB t then [(t.seen, true, [(2, IntKind.i64.wrap (t.worker + 1))])] else []) → Fr [] h H1 →
        storesB t = false → ∀ (ρ : Nat → Value), ρ 3 = v' → ρ 6 = tv → ρ 7 = .int .i64 (txs.length : Nat) → ρ 8 = .int .i64 ((i : Int) + 1) → Again I (txs.length - i) ρ H1 := by
      intro H1 v' L' g1 g2 g3 g4 hst ρ t3 t6 t7 t8
      exact nxt ρ H1 v' L' g1 (by omega) (by simp [g3, entP, hst]) g4 t3 t6 t7 t8
    rcases hcase with ⟨fa, hfa, hra, hno⟩ | ⟨hfa, hse, hra⟩
    · have st := fun H1 => stores_spec (h := H1) hf2 tx
      simp only [Tx.cells, hfa] at st
      have g1 := hL.fr (Fr.append [] h' [.row [.int .i64 t.worker, .int .i64 t.how, .int .i64 t.seen, .int .i64 t.stamp, .bool fa, .bool t.sure, t.rv, t.wv] 53 0])
      have g4 := fr.trans (Fr.append [] h' [.row [.int .i64 t.worker, .int .i64 t.how, .int .i64 t.seen, .int .i64 t.stamp, .bool fa, .bool t.sure, t.rv, t.wv] 53 0])
      rcases hno with rfl | ⟨rfl, hse⟩
      all_goals
        first
        | simp [r3, r6, r7, r8, hlt, e2, e8, lv, lw, Tx.cells, hfa, hse]
        | simp [r3, r6, r7, r8, hlt, e2, e8, lv, lw, Tx.cells, hfa]
        refine (st _).mono ?_
        rintro r h3 ⟨rfl, f3⟩
        have hT3 := f3.same h'.length _ (by simp) (by simp; rfl)
        cases hst : storesB t with
        | false =>
          simp [r3, r6, r7, r8, i3]
          exact fin0 _ v L (g1.fr f3) (by omega) (by rw [hra]; simpa using hLp) (g4.trans f3) hst _ (by simp [r3]) (by simp [r6]) (by simp [r7]) (by simp)
        | true =>
          simp [r3, r6, r7, r8, i3, hT3, lw, hvc]
          refine app_56 _ _ _ _ ?_
          obtain ⟨v2, H2, hap, hff, hn⟩ := fin _ h3 v L hfa (g1.fr f3) (by omega) (by rw [hra]; simpa using hLp) (g4.trans f3) hst
          refine ⟨_, hap, ?_⟩
          simp [r3, r6, r7, r8, i3]
          exact hn _ (by simp) (by simp [r6]) (by simp [r7]) (by simp)
    · have st := fun H1 => stores_spec (h := H1) hf2 tx
      simp only [Tx.cells, hfa] at st
      simp [r3, r6, r7, r8, hlt, e2, e8, lv, lw, Tx.cells, hfa, hse]
      refine app_56 _ _ _ _ ?_
      have hlp : h.length ≤ h'.length := fr.len
      have hH3 : ∃ H3, H3 = h' ++ [.row [.int .i64 t.worker, .int .i64 t.how, .int .i64 t.seen, .int .i64 t.stamp, .bool true, .bool t.sure, t.rv, t.wv] 53 0, .row [.int .i64 2, .int .i64 (IntKind.i64.wrap (t.worker + 1))] 55 0, .row [.int .i64 t.seen, .bool true, .slice (some ⟨h'.length + 1, 0, some 0⟩) 1 3] 74 0] := ⟨_, rfl⟩
      obtain ⟨H3, hH3⟩ := hH3
      have f3 : Fr [] h' H3 := by rw [hH3]; exact Fr.append _ _ _
      have hpair : H3[h'.length + 1]? = some (.row [.int .i64 2, .int .i64 (IntKind.i64.wrap (t.worker + 1))] 55 0) := by rw [hH3]; simp
      have hlen3 : H3.length = h'.length + 3 := by rw [hH3]; simp
      obtain ⟨v2, H4, hap, hl4, b, hb, hbb, fb⟩ := app_en (e := ⟨t.seen, true, .slice (some ⟨h'.length + 1, 0, some 0⟩) 1 3, [(2, IntKind.i64.wrap (t.worker + 1))]⟩) (H := H3) (bytes := 40) (i := h'.length + 2) (j := h'.length + 1) (hL.fr f3) (by omega) rfl (by rw [hH3]; simp [En.cells])
        (fun b g hv => by have := blk hL b g hv; exact ⟨by omega, by omega⟩) (by omega) (fun b H2 hbj f2 => by
          have := f2.same (h'.length + 1) _ (by simpa using Ne.symm hbj) hpair
          exact Sl.row (rows := [prow (2, IntKind.i64.wrap (t.worker + 1))]) (rest := []) (by simpa [prow] using this) (by simp)) (by omega) (by omega)
      rw [← hH3]
      refine ⟨_, hap, ?_⟩
      have ff : Fr [] h H4 := (fr.trans f3).trans' fb (fun x hx => .inr (by simp at hx; omega))
      have hT4 : H4[h'.length]? = some (.row [.int .i64 t.worker, .int .i64 t.how, .int .i64 t.seen, .int .i64 t.stamp, .bool true, .bool t.sure, t.rv, t.wv] 53 0) := by
        refine fb.same _ _ ?_ (by rw [hH3]; simp)
        rcases hbb with hbb | ⟨g, hbb⟩
        · simp; omega
        · have := blk hL b g hbb; simp; omega
      simp [r3, r6, r7, r8, hT4]
      refine (st _).mono ?_
      rintro r h3 ⟨rfl, f3⟩
      have hT3 := f3.same h'.length _ (by simp) hT4
      cases hst : storesB t with
      | false =>
        simp [r3, r6, r7, r8, i3]
        exact fin0 _ v2 _ (hl4.fr f3) (by simp; omega) (by rw [hra]; simp [hLp, En.pl]) (ff.trans f3) hst _ (by simp) (by simp [r6]) (by simp [r7]) (by simp)
      | true =>
        simp [r3, r6, r7, r8, i3, hT3, lw, hvc]
        refine app_56 _ _ _ _ ?_
        obtain ⟨v3, H2, hap2, hff, hn⟩ := fin _ h3 v2 _ hfa (hl4.fr f3) (by simp; omega) (by rw [hra]; simp [hLp, En.pl]) (ff.trans f3) hst
        refine ⟨_, hap2, ?_⟩
        simp [r3, r6, r7, r8, i3]
        exact hn _ (by simp) (by simp [r6]) (by simp [r7]) (by simp)
  · rw [List.take_of_length_le (by omega)] at hLp
    simp [r3, r6, r7, r8, hlt]
    rcases hL with ⟨rfl, rfl⟩ | ⟨b, g, rfl, hb, ha, hsl⟩
    · refine (sort_nil hf3 H).mono ?_
      rintro r h2 ⟨rfl, rfl⟩
      simp [r3]
      exact ⟨⟨[], .inl ⟨rfl, rfl⟩, List.Pairwise.nil, [], Filt.refl _, hLp⟩, fr⟩
    · refine (sortStable_spec hf3 H ha rfl (by omega)).mono ?_
      rintro r h2 ⟨rfl, ⟨Y, y1, y2, y3⟩, f2⟩
      simp [r3]
      refine ⟨⟨Y, .inr ⟨b, g, by rw [y3.len], hb, y1, fun e he H2 f3 => hsl e (y3.mem he) H2 (f2.trans f3)⟩, y2, L, y3, hLp⟩, fr.trans' f2 (fun x hx => .inr (by simp at hx; omega))⟩
end Go.Proofs.Ytlifcjggdandnaa
