/- The reference: the next stamp at which something is stored. -/
import Derived.Test.YtlifcjggdandnaaT15
namespace Go.Proofs.Ytlifcjggdandnaa
open Go.Ideal
variable {w0 : World} {hk : Hooks} {h : Heap}

def stp (has : Bool) (above : Int) (b : Bool) (s : Int) (x : Int × Bool) : Int × Bool :=
  if b && (!has || decide (above < s)) && (!x.2 || decide (s < x.1)) then (s, true) else x

/-- The least of the stamps that count. -/
def Nx (A : List (Int × Bool × List (Int × Int))) (has : Bool) (above : Int) (x : Int × Bool) : Prop :=
  (x.2 = true → (∃ e ∈ A, e.1 = x.1 ∧ (has = true → above < e.1)) ∧ ∀ e ∈ A, (has = true → above < e.1) → x.1 ≤ e.1) ∧
  (x.2 = false → x.1 = 0 ∧ ∀ e ∈ A, ¬ (has = true → above < e.1))

theorem Nx_step {A : List (Int × Bool × List (Int × Int))} {has : Bool} {above : Int} {x : Int × Bool} (hx : Nx A has above x) (b : Bool) (e : Int × Bool × List (Int × Int)) : Nx (A ++ (if b then [e] else [])) has above (stp has above b e.1 x) := by
  cases b with
  | false => simpa [stp] using hx
  | true =>
    obtain ⟨m, f⟩ := x
    obtain ⟨h1, h2⟩ := hx
    simp only [if_true]
    by_cases hok : has = true → above < e.1
    · have hok' : (!has || decide (above < e.1)) = true := by
        cases has with
        | false => rfl
        | true => simpa using hok rfl
      by_cases hlt : (!f || decide (e.1 < m)) = true
      · have : stp has above true e.1 (m, f) = (e.1, true) := by simp only [stp, hok', hlt]; rfl
        rw [this]
        refine ⟨fun _ => ⟨⟨e, by simp, rfl, hok⟩, fun e' he' hh => ?_⟩, fun hh => by cases hh⟩
        rcases List.mem_append.1 he' with he' | he'
        · cases f with
          | false => exact absurd hh ((h2 rfl).2 e' he')
          | true =>
            have := (h1 rfl).2 e' he' hh
            simp at hlt
            simp at this
            show e.1 ≤ e'.1
            omega
        · simp at he'; subst he'; exact Int.le_refl _
      · have : stp has above true e.1 (m, f) = (m, f) := by simp only [stp, hok']; simp at hlt ⊢; intro hh; simp [hlt.1] at hh; omega
        rw [this]
        have hf : f = true := by simp at hlt; exact hlt.1
        subst hf
        obtain ⟨⟨e0, g1, g2, g3⟩, g4⟩ := h1 rfl
        refine ⟨fun _ => ⟨⟨e0, by simp [g1], g2, g3⟩, fun e' he' hh => ?_⟩, fun hh => by cases hh⟩
        rcases List.mem_append.1 he' with he' | he'
        · exact g4 e' he' hh
        · simp at he'; subst he'
          simp at hlt
          exact hlt
    · have hb : has = true ∧ ¬ above < e.1 := by
        cases has with
        | false => exact absurd (fun hh => by cases hh) hok
        | true => exact ⟨rfl, fun hh => hok fun _ => hh⟩
      have : stp has above true e.1 (m, f) = (m, f) := by simp [stp, hb.1, hb.2]
      rw [this]
      refine ⟨fun hf => ?_, fun hf => ⟨(h2 hf).1, fun e' he' => ?_⟩⟩
      · obtain ⟨⟨e0, g1, g2, g3⟩, g4⟩ := h1 hf
        refine ⟨⟨e0, by simp [g1], g2, g3⟩, fun e' he' hh => ?_⟩
        rcases List.mem_append.1 he' with he' | he'
        · exact g4 e' he' hh
        · simp at he'; subst he'; exact absurd hh hok
      · rcases List.mem_append.1 he' with he' | he'
        · exact (h2 hf).2 e' he'
        · simp at he'; subst he'; exact hok

/-- The part of a try that stores what it wrote. -/
theorem next4 (hf : hk 46 = none) {Q : IExit → (Nat → Value) → Heap → Prop} {ρ : Nat → Value} {h : Heap} {t : Tx} {tv : Value} {above m : Int} {has f : Bool} {i j : Nat} (tx : TxOk w0 t) (r0 : ρ 0 = tv) (r1 : ρ 1 = .int .i64 above) (r2 : ρ 2 = .bool has) (r8 : ρ 8 = .int .i64 m) (r9 : ρ 9 = .bool f) (r10 : ρ 10 = .int .i64 (i : Nat)) (r11 : ρ 11 = .pointer (some ⟨j, 0, some 0⟩))
    (hj : h[j]? = some (.row [.int .i64 t.worker, .int .i64 t.how, .int .i64 t.seen, .int .i64 t.stamp, .bool t.fall, .bool t.sure, t.rv, t.wv] 53 0))
    (hq : ∀ ρ' h', Fr [] h h' → ρ' 0 = tv → ρ' 1 = .int .i64 above → ρ' 2 = .bool has → ρ' 8 = .int .i64 (stp has above (storesB t) t.stamp (m, f)).1 → ρ' 9 = .bool (stp has above (storesB t) t.stamp (m, f)).2 → ρ' 10 = .int .i64 (i : Nat) → Q .normal ρ' h') : wp2 Try.prog w0 hk 72 tail_47_4 ρ h Q := by
  simp only [tail_47_4, tail_47_3]
  have st := rstores_spec (h := h) hf tx
  simp only [Tx.cells] at st
  simp [r11, hj]
  refine st.mono ?_
  rintro r h2 ⟨rfl, f2⟩
  have hj2 := f2.same j _ (by simp) hj
  cases hst : storesB t with
  | false =>
    simp
    exact hq _ _ f2 (by simp [r0]) (by simp [r1]) (by simp [r2]) (by simp [r8, hst, stp]) (by simp [r9, hst, stp]) (by simp [r10])
  | true =>
    cases hh : has <;> cases hff : f
    · simp [r0, r1, r2, r8, r9, r10, r11, hj2, hh, hff]
      exact hq _ _ f2 (by simp [r0]) (by simp [r1]) (by simp [r2, hh]) (by simp [hst, stp, hh, hff]) (by simp [hst, stp, hh, hff]) (by simp [r10])
    · by_cases hm : t.stamp < m
      · simp [r0, r1, r2, r8, r9, r10, r11, hj2, hh, hff, hm]
        exact hq _ _ f2 (by simp [r0]) (by simp [r1]) (by simp [r2, hh]) (by simp [hst, stp, hh, hff, hm]) (by simp [hst, stp, hh, hff, hm]) (by simp [r10])
      · simp [r0, r1, r2, r8, r9, r10, r11, hj2, hh, hff, hm]
        exact hq _ _ f2 (by simp [r0]) (by simp [r1]) (by simp [r2, hh]) (by simp [r8, hst, stp, hh, hff, hm]) (by simp [r9, hst, stp, hh, hff, hm]) (by simp [r10])
    · by_cases ha : above < t.stamp
      · simp [r0, r1, r2, r8, r9, r10, r11, hj2, hh, hff, ha]
        exact hq _ _ f2 (by simp [r0]) (by simp [r1]) (by simp [r2, hh]) (by simp [hst, stp, hh, hff, ha]) (by simp [hst, stp, hh, hff, ha]) (by simp [r10])
      · simp [r0, r1, r2, r8, r9, r10, r11, hj2, hh, hff, ha]
        exact hq _ _ f2 (by simp [r0]) (by simp [r1]) (by simp [r2, hh]) (by simp [r8, hst, stp, hh, hff, ha]) (by simp [r9, hst, stp, hh, hff, ha]) (by simp [r10])
    · by_cases ha : above < t.stamp
      · by_cases hm : t.stamp < m
        · simp [r0, r1, r2, r8, r9, r10, r11, hj2, hh, hff, ha, hm]
          exact hq _ _ f2 (by simp [r0]) (by simp [r1]) (by simp [r2, hh]) (by simp [hst, stp, hh, hff, ha, hm]) (by simp [hst, stp, hh, hff, ha, hm]) (by simp [r10])
        · simp [r0, r1, r2, r8, r9, r10, r11, hj2, hh, hff, ha, hm]
          exact hq _ _ f2 (by simp [r0]) (by simp [r1]) (by simp [r2, hh]) (by simp [r8, hst, stp, hh, hff, ha, hm]) (by simp [r9, hst, stp, hh, hff, ha, hm]) (by simp [r10])
      · simp [r0, r1, r2, r8, r9, r10, r11, hj2, hh, hff, ha]
        exact hq _ _ f2 (by simp [r0]) (by simp [r1]) (by simp [r2, hh]) (by simp [r8, hst, stp, hh, hff, ha]) (by simp [r9, hst, stp, hh, hff, ha]) (by simp [r10])

/-- Both parts of a try. -/
theorem next5 (hf : hk 46 = none) (hf2 : hk 48 = none) {Q : IExit → (Nat → Value) → Heap → Prop} {ρ : Nat → Value} {h : Heap} {t : Tx} {tv : Value} {above m : Int} {has f : Bool} {i j : Nat} (tx : TxOk w0 t) (r0 : ρ 0 = tv) (r1 : ρ 1 = .int .i64 above) (r2 : ρ 2 = .bool has) (r8 : ρ 8 = .int .i64 m) (r9 : ρ 9 = .bool f) (r10 : ρ 10 = .int .i64 (i : Nat)) (r11 : ρ 11 = .pointer (some ⟨j, 0, some 0⟩))
    (hj : h[j]? = some (.row [.int .i64 t.worker, .int .i64 t.how, .int .i64 t.seen, .int .i64 t.stamp, .bool t.fall, .bool t.sure, t.rv, t.wv] 53 0))
    (hq : ∀ ρ' h', Fr [] h h' → ρ' 0 = tv → ρ' 1 = .int .i64 above → ρ' 2 = .bool has → ρ' 8 = .int .i64 (stp has above (storesB t) t.stamp (stp has above (raisedB t) t.seen (m, f))).1 → ρ' 9 = .bool (stp has above (storesB t) t.stamp (stp has above (raisedB t) t.seen (m, f))).2 → ρ' 10 = .int .i64 (i : Nat) → Q .normal ρ' h') : wp2 Try.prog w0 hk 72 tail_47_5 ρ h Q := by
  simp only [tail_47_5, tail_47_2]
  have st := raised_spec (h := h) hf2 tx
  simp only [Tx.cells] at st
  simp [r11, hj]
  refine st.mono ?_
  rintro r h2 ⟨rfl, f2⟩
  have hj2 := f2.same j _ (by simp) hj
  have nx : ∀ (ρ : Nat → Value) (m' : Int) (f' : Bool), (m', f') = stp has above (raisedB t) t.seen (m, f) → ρ 0 = tv → ρ 1 = .int .i64 above → ρ 2 = .bool has → ρ 8 = .int .i64 m' → ρ 9 = .bool f' → ρ 10 = .int .i64 (i : Nat) → ρ 11 = .pointer (some ⟨j, 0, some 0⟩) → wp2 Try.prog w0 hk 72 tail_47_4 ρ h2 Q := by
    intro ρ m' f' he s0 s1 s2 s8 s9 s10 s11
    refine next4 hf tx s0 s1 s2 s8 s9 s10 s11 hj2 fun ρ' h' g1 g2 g3 g4 g5 g6 g7 => ?_
    rw [he] at g5 g6
    exact hq ρ' h' (f2.trans g1) g2 g3 g4 g5 g6 g7
  cases hst : raisedB t with
  | false =>
    simp
    exact nx _ m f (by simp [hst, stp]) (by simp [r0]) (by simp [r1]) (by simp [r2]) (by simp [r8]) (by simp [r9]) (by simp [r10]) (by simp [r11])
  | true =>
    cases hh : has <;> cases hff : f
    · simp [r0, r1, r2, r8, r9, r10, r11, hj2, hh, hff]
      exact nx _ t.seen true (by simp [hst, stp, hh, hff]) (by simp [r0]) (by simp [r1]) (by simp [r2, hh]) (by simp) (by simp) (by simp [r10]) (by simp [r11])
    · by_cases hm : t.seen < m
      · simp [r0, r1, r2, r8, r9, r10, r11, hj2, hh, hff, hm]
        exact nx _ t.seen true (by simp [hst, stp, hh, hff, hm]) (by simp [r0]) (by simp [r1]) (by simp [r2, hh]) (by simp) (by simp) (by simp [r10]) (by simp [r11])
      · simp [r0, r1, r2, r8, r9, r10, r11, hj2, hh, hff, hm]
        exact nx _ m f (by simp [hst, stp, hh, hff, hm]) (by simp [r0]) (by simp [r1]) (by simp [r2, hh]) (by simp [r8]) (by simp [r9]) (by simp [r10]) (by simp [r11])
    · by_cases ha : above < t.seen
      · simp [r0, r1, r2, r8, r9, r10, r11, hj2, hh, hff, ha]
        exact nx _ t.seen true (by simp [hst, stp, hh, hff, ha]) (by simp [r0]) (by simp [r1]) (by simp [r2, hh]) (by simp) (by simp) (by simp [r10]) (by simp [r11])
      · simp [r0, r1, r2, r8, r9, r10, r11, hj2, hh, hff, ha]
        exact nx _ m f (by simp [hst, stp, hh, hff, ha]) (by simp [r0]) (by simp [r1]) (by simp [r2, hh]) (by simp [r8]) (by simp [r9]) (by simp [r10]) (by simp [r11])
    · by_cases ha : above < t.seen
      · by_cases hm : t.seen < m
        · simp [r0, r1, r2, r8, r9, r10, r11, hj2, hh, hff, ha, hm]
          exact nx _ t.seen true (by simp [hst, stp, hh, hff, ha, hm]) (by simp [r0]) (by simp [r1]) (by simp [r2, hh]) (by simp) (by simp) (by simp [r10]) (by simp [r11])
        · simp [r0, r1, r2, r8, r9, r10, r11, hj2, hh, hff, ha, hm]
          exact nx _ m f (by simp [hst, stp, hh, hff, ha, hm]) (by simp [r0]) (by simp [r1]) (by simp [r2, hh]) (by simp [r8]) (by simp [r9]) (by simp [r10]) (by simp [r11])
      · simp [r0, r1, r2, r8, r9, r10, r11, hj2, hh, hff, ha]
        exact nx _ m f (by simp [hst, stp, hh, hff, ha]) (by simp [r0]) (by simp [r1]) (by simp [r2, hh]) (by simp [r8]) (by simp [r9]) (by simp [r10]) (by simp [r11])

theorem next_spec (hf : hk 47 = none) (hf1 : hk 46 = none) (hf2 : hk 48 = none) {fv tv : Value} {first : List Int} {txs : List Tx} (hi : In w0 fv tv first txs) (above : Int) (has : Bool) :
    Ans Try.prog w0 hk 47 [tv, .int .i64 above, .bool has] h (fun r h' => (∃ x : Int × Bool, r = .ret (.tuple #[.int .i64 x.1, .bool x.2]) ∧ Nx (allP txs) has above x) ∧ Fr [] h h') := by
  refine Ans.run hf cmp_47 (by simp) ?_
  simp only [code_47, tail_47_11, tail_47_10, tail_47_9, tail_47_8]
  simp
  refine wp_rounds (fun k ρ h' => ∃ (i : Nat) (m : Int) (f : Bool), i ≤ txs.length ∧ k = txs.length - i ∧ ρ 0 = tv ∧ ρ 1 = .int .i64 above ∧ ρ 2 = .bool has ∧ ρ 8 = .int .i64 m ∧ ρ 9 = .bool f ∧ ρ 10 = .int .i64 (i : Nat) ∧ Nx (allP (txs.take i)) has above (m, f) ∧ Fr [] h h') ?_ (k := txs.length)
    ⟨0, 0, false, by simp, by simp, by simp, by simp, by simp, by simp, by simp, by simp, ⟨fun hh => (by cases hh), fun _ => ⟨rfl, by simp [allP]⟩⟩, Fr.refl _ _⟩
  rintro I hI k ρ h' ⟨i, m, f, hi1, rfl, r0, r1, r2, r8, r9, r10, hnx, fr⟩
  have l2 := (hi.t h').len
  by_cases hlt : i < txs.length
  · have ht := List.getElem?_eq_getElem hlt
    generalize txs[i] = t at ht
    have htm := List.mem_of_getElem? ht
    have tx := hi.ok t htm
    obtain ⟨b1, b2, b3, b4⟩ := hi.lt htm
    obtain ⟨e2, e8, c0, c2, c3, c4, c5, c6, c7⟩ := hi.at ht h'
    have lv := tx.lr
    have lw := tx.lw
    have i3 : IntKind.i64.wrap ((i : Int) + 1) = (i : Int) + 1 := IntWalk.i64_in _ ⟨by omega, by omega⟩
    simp [tail_47_1, tail_47_7, r0, r1, r2, r8, r9, r10, l2, hlt, e2, e8, lv, lw, Tx.cells]
    refine next5 (tv := tv) (above := above) (m := m) (has := has) (f := f) (i := i) (j := h'.length) hf1 hf2 tx (by simp [r0]) (by simp [r1]) (by simp [r2]) (by simp [r8]) (by simp [r9]) (by simp [r10]) (by simp) (by simp) fun ρ' h4 g1 g2 g3 g4 g5 g6 g7 => ?_
    simp [tail_47_6, g7, i3]
    subst hI
    refine ⟨txs.length - (i + 1), by omega, i + 1, _, _, by omega, rfl, by simp [g2], by simp [g3], by simp [g4], by simp; exact g5, by simp; exact g6, by simp, ?_, (fr.trans (Fr.append _ _ _)).trans g1⟩
    have s1 := Nx_step hnx (raisedB t) (t.seen, true, [(2, IntKind.i64.wrap (t.worker + 1))])
    have s2 := Nx_step s1 (storesB t) (t.stamp, false, t.ws)
    rw [take_snoc ht]
    have : allP (txs.take i ++ [t]) = allP (txs.take i) ++ (if raisedB t then [(t.seen, true, [(2, IntKind.i64.wrap (t.worker + 1))])] else []) ++ (if storesB t then [(t.stamp, false, t.ws)] else []) := by simp [allP, entP]
    rw [this]
    exact s2
  · simp [tail_47_1, r0, r1, r2, r8, r9, r10, l2, hlt]
    rw [List.take_of_length_le (by omega)] at hnx
    cases f
    · exact ⟨⟨m, .inl ⟨⟨rfl, rfl⟩, hnx⟩⟩, fr⟩
    · exact ⟨⟨m, .inr ⟨⟨rfl, rfl⟩, hnx⟩⟩, fr⟩
end Go.Proofs.Ytlifcjggdandnaa
namespace Go.Proofs.Ytlifcjggdandnaa
open Go.Ideal
variable {w0 : World} {hk : Hooks} {h : Heap}

abbrev PT := Int × Bool × List (Int × Int)
def applyT (w : List Int) (l : List PT) : List Int := l.foldl (fun w e => applyPs w e.2.2) w
theorem applyT_len (l : List PT) : ∀ w, (applyT w l).length = w.length := by
  induction l with
  | nil => intro w; rfl
  | cons e l ih => intro w; exact (ih _).trans (applyPs_len _ _)
theorem applyAll_T (L : List En) : ∀ w, applyAll w L = applyT w (L.map En.pl) := by
  induction L with
  | nil => intro w; rfl
  | cons e l ih => intro w; exact ih _
theorem applyT_append (w : List Int) (a b : List PT) : applyT w (a ++ b) = applyT (applyT w a) b := by simp [applyT]
theorem applyAll_append (w : List Int) (a b : List En) : applyAll w (a ++ b) = applyAll (applyAll w a) b := by simp [applyAll]

def isF (a : Int) (e : PT) : Bool := decide (e.1 = a) && e.2.1
def isG (a : Int) (e : PT) : Bool := decide (e.1 = a) && !e.2.1

theorem pick_eq {txs : List Tx} {L : List En} (hL : OkL txs L) (a : Int) : (L.filter (fun e => decide (e.stamp = a))).map En.pl = (allP txs).filter (isF a) ++ (allP txs).filter (isG a) := by
  obtain ⟨hs, L0, hf, hp⟩ := hL
  have e1 : (fun e : En => decide (e.stamp = a)) = fun e => (decide (e.stamp = a) && e.flag) || (decide (e.stamp = a) && !e.flag) := by
    funext e; cases e.flag <;> simp
  rw [e1, split_filter hs, List.map_append]
  · have k1 : (fun e : En => decide (e.stamp = a) && e.flag) = fun e => e.key == 2 * a := by
      funext e
      rw [Bool.eq_iff_iff]
      unfold En.key
      cases e.flag <;> simp <;> omega
    have k2 : (fun e : En => decide (e.stamp = a) && !e.flag) = fun e => e.key == 2 * a + 1 := by
      funext e
      rw [Bool.eq_iff_iff]
      unfold En.key
      cases e.flag <;> simp <;> omega
    rw [k1, k2, hf, hf, ← k1, ← k2, ← hp, List.filter_map, List.filter_map]
    rfl
  · intro x y hx hy
    unfold En.key
    simp at hx hy
    simp [hx.1, hx.2, hy.1, hy.2]
    omega

theorem filter_le {L : List En} (hs : Sorted L) (a : Int) : L.filter (fun e => decide (e.stamp ≤ a)) = L.filter (fun e => decide (e.stamp < a)) ++ L.filter (fun e => decide (e.stamp = a)) := by
  have e1 : (fun e : En => decide (e.stamp ≤ a)) = fun e => decide (e.stamp < a) || decide (e.stamp = a) := by
    funext e
    rw [← Bool.decide_or]
    exact decide_eq_decide.2 (by omega)
  rw [e1, split_filter hs]
  intro x y hx hy
  simp at hx hy
  unfold En.key
  split <;> split <;> omega

/-- Where the reference stands: what it has laid, and the next stamp. -/
def RSt (first : List Int) (L : List En) (c : Int → Bool) (a : Int) (has : Bool) (W : List Int) : Prop :=
  (has = true → W = applyAll first (L.filter fun e => decide (e.stamp < a)) ∧ (∃ e ∈ L, e.stamp = a) ∧ ∀ e ∈ L, e.stamp < a → c e.stamp = true) ∧
  (has = false → W = applyAll first L ∧ ∀ e ∈ L, c e.stamp = true)

theorem OkL.mem' {txs : List Tx} {L : List En} (hL : OkL txs L) {p : PT} (hp : p ∈ allP txs) : ∃ e ∈ L, e.pl = p := by
  obtain ⟨hs, L0, hf, hm⟩ := hL
  rw [← hm] at hp
  obtain ⟨e, he, rfl⟩ := List.mem_map.1 hp
  refine ⟨e, ?_, rfl⟩
  have : e ∈ L0.filter (fun x => x.key == e.key) := List.mem_filter.2 ⟨he, by simp⟩
  rw [← hf] at this
  exact (List.mem_filter.1 this).1

theorem RSt.start {first : List Int} {txs : List Tx} {L : List En} {c : Int → Bool} (hL : OkL txs L) {x : Int × Bool} (hx : Nx (allP txs) false 0 x) : RSt first L c x.1 x.2 first := by
  constructor
  · intro hf
    obtain ⟨⟨e, he, h1, _⟩, h2⟩ := hx.1 hf
    have hno : ∀ e ∈ L, ¬ e.stamp < x.1 := fun e he => by
      have := h2 _ (hL.mem he) (fun hh => by cases hh)
      simp [En.pl] at this; omega
    refine ⟨?_, ?_, fun e he hlt => absurd hlt (hno e he)⟩
    · rw [List.filter_eq_nil_iff.2 (fun e he => by simpa using hno e he)]; rfl
    · obtain ⟨e', he', rfl⟩ := hL.mem' he
      exact ⟨e', he', h1⟩
  · intro hf
    have h2 := (hx.2 hf).2
    have hnil : L = [] := by
      cases L with
      | nil => rfl
      | cons e L => exact absurd (fun hh => by cases hh) (h2 _ (hL.mem (List.mem_cons_self ..)))
    subst hnil
    exact ⟨rfl, by simp⟩

theorem RSt.next {first : List Int} {txs : List Tx} {L : List En} {c : Int → Bool} (hL : OkL txs L) (hc : ∀ x y : Int, x ≤ y → c y = true → c x = true) {a : Int} {W : List Int} (h0 : RSt first L c a true W) (hca : c a = true) {x : Int × Bool} (hx : Nx (allP txs) true a x) :
    RSt first L c x.1 x.2 (applyT (applyT W ((allP txs).filter (isF a))) ((allP txs).filter (isG a))) := by
  obtain ⟨rfl, -, h2⟩ := h0.1 rfl
  have hW : applyT (applyT (applyAll first (L.filter fun e => decide (e.stamp < a))) ((allP txs).filter (isF a))) ((allP txs).filter (isG a)) = applyAll first (L.filter fun e => decide (e.stamp ≤ a)) := by
    rw [← applyT_append, ← pick_eq hL a, ← applyAll_T, ← applyAll_append, ← filter_le hL.1]
  rw [hW]
  constructor
  · intro hf
    obtain ⟨⟨e, he, h3, h4⟩, h5⟩ := hx.1 hf
    have h4 := h4 rfl
    have hle : ∀ e ∈ L, e.stamp < x.1 → e.stamp ≤ a := fun e he hlt => by
      apply Int.not_lt.1
      intro hgt
      have := h5 _ (hL.mem he) (fun _ => hgt)
      simp [En.pl] at this; omega
    refine ⟨?_, ?_, fun e he hlt => hc _ a (hle e he hlt) hca⟩
    · congr 1
      refine List.filter_congr fun e he => decide_eq_decide.2 ⟨fun hh => by omega, hle e he⟩
    · obtain ⟨e', he', rfl⟩ := hL.mem' he
      exact ⟨e', he', h3⟩
  · intro hf
    have h3 := (hx.2 hf).2
    have hle : ∀ e ∈ L, e.stamp ≤ a := fun e he => by
      apply Int.not_lt.1
      intro hgt
      exact h3 _ (hL.mem he) (fun _ => hgt)
    refine ⟨?_, fun e he => hc _ a (hle e he) hca⟩
    rw [List.filter_eq_self.2 (fun e he => by simpa using hle e he)]

theorem RSt.fin {first : List Int} {L : List En} {c : Int → Bool} (hc : ∀ x y : Int, x ≤ y → c y = true → c x = true) {a : Int} {has : Bool} {W : List Int} (h0 : RSt first L c a has W) (hno : has = false ∨ c a = false) : W = stW first L c := by
  unfold stW
  cases has with
  | false =>
    obtain ⟨rfl, h2⟩ := h0.2 rfl
    rw [List.filter_eq_self.2 (fun e he => h2 e he)]
  | true =>
    obtain ⟨rfl, -, h2⟩ := h0.1 rfl
    congr 1
    refine List.filter_congr fun e he => ?_
    by_cases hlt : e.stamp < a
    · rw [decide_eq_true hlt, h2 e he hlt]
    · rw [decide_eq_false hlt]
      cases hce : c e.stamp with
      | false => rfl
      | true =>
        have := hc a e.stamp (by omega) hce
        rcases hno with hh | hh
        · cases hh
        · rw [hh] at this; cases this

/-- How many stamps are to come. -/
def left (L : List En) (a : Int) (has : Bool) : Nat := if has then (L.filter fun e => decide (a ≤ e.stamp)).length + 1 else 0

theorem left_next {txs : List Tx} {L : List En} (hL : OkL txs L) {first : List Int} {c : Int → Bool} {a : Int} {W : List Int} (h0 : RSt first L c a true W) {x : Int × Bool} (hx : Nx (allP txs) true a x) : left L x.1 x.2 < left L a true := by
  unfold left
  cases hf : x.2 with
  | false => simp
  | true =>
    obtain ⟨-, ⟨e, he, hea⟩, -⟩ := h0.1 rfl
    obtain ⟨⟨e1, he1, h3, h4⟩, h5⟩ := hx.1 hf
    have h4 := h4 rfl
    simp only [if_true]
    have hlt : a < x.1 := by omega
    have : (L.filter fun e => decide (x.1 ≤ e.stamp)) = (L.filter fun e => decide (a ≤ e.stamp)).filter fun e => decide (x.1 ≤ e.stamp) := by
      rw [List.filter_filter]
      refine List.filter_congr fun e he => ?_
      by_cases hh : x.1 ≤ e.stamp
      · simp [hh]; omega
      · simp [hh]
    rw [this]
    have hmem : e ∈ L.filter fun e => decide (a ≤ e.stamp) := List.mem_filter.2 ⟨he, by simp; omega⟩
    have := List.length_filter_lt_length_iff_exists (p := fun e : En => decide (x.1 ≤ e.stamp)) (l := L.filter fun e => decide (a ≤ e.stamp)) |>.2 ⟨e, hmem, by simp; omega⟩
    omega
end Go.Proofs.Ytlifcjggdandnaa
